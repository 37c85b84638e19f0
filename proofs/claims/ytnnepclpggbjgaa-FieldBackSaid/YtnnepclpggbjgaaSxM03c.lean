import Derived.Test.YtnnepclpggbjgaaSxN03g
import Derived.Test.YtnnepclpggbjgaaSxS03L10
namespace Go.Sx
theorem backShape (A : Ar) (n b c bc : Nat) (t : Bool) (a s by_ mk y own pb pc pm ps zr one : List Nat) (B1 : g33ok A a = true) (B2 : g33r0 A a = by_) (M1 : g29ok A by_ = true) (M2 : g29r0 A by_ = mk) (M3 : g29r1 A by_ = true) (S1 : g29ok A s = true) (S2 : g29r0 A s = y) (S3 : g29r1 A s = t)
    (P1 : g24ok A a ([0, 0, 0, 0].set 0 b) = true) (P2 : g24r0 A a ([0, 0, 0, 0].set 0 b) = pb) (Q1 : g24ok A a ([0, 0, 0, 0].set 0 c) = true) (Q2 : g24r0 A a ([0, 0, 0, 0].set 0 c) = pc) (W1 : g16ok A pb pc = true) (W2 : g16r0 A pb pc = pm) (O1 : g12ok A a [0, 0, 0, 0] = true) (O2 : g12r0 A a [0, 0, 0, 0] = own)
    (L1 : A.lq mk own = true) (N1 : A.nb .add .u64 b c = bc) (R1 : g24ok A a ([0, 0, 0, 0].set 0 bc) = true) (R2 : g24r0 A a ([0, 0, 0, 0].set 0 bc) = ps) (L2 : A.lq pm ps = true) (Z1 : g24ok A a [0, 0, 0, 0] = true) (Z2 : g24r0 A a [0, 0, 0, 0] = zr) (T1 : g23ok A 1 = true) (T2 : g23r0 A 1 = one) (L3 : A.lq zr one = true)
    (Y : t = true → g33ok A y = true ∧ A.sc .eql (g33r0 A y) s = true) : g10J4 A n (fun v _ => some v) s b c true a = some (.v (.cell (.bool true))) := by
  unfold g10J4
  rw [B1, B2, M1, M2, M3, S1, S2, S3, P1, P2, Q1, Q2, W1, W2, O1, O2, L1, N1, R1, R2, L2, Z1, Z2, T1, T2, L3]
  cases t with
  | true =>
    rw [(Y rfl).1, (Y rfl).2]
    rfl
  | false => rfl
theorem g10Shape (A : Ar) (n b c : Nat) (a s : List Nat) (k1 : g11ok A = true) (k2 : g11r0 A = true) : g10 A n (fun v _ => some v) a s b c = g10J4 A n (fun v _ => some v) s b c true a := by
  unfold g10
  rw [k1, k2]
  rfl
theorem num_small (b : Nat) : num ([0, 0, 0, 0].set 0 b) = b := by show v64 b 0 0 0 = b; unfold v64; omega
theorem W4_small {b : Nat} (hb : b < 18446744073709551616) : W4 ([0, 0, 0, 0].set 0 b) := ⟨b, 0, 0, 0, rfl, hb, by decide, by decide, by decide⟩
theorem feB {x : Nat} (h : x < PP) : fe x = fm x := by unfold fm; rw [Nat.mod_eq_of_lt h]
theorem P256 (x : Nat) : x % PP < 256 ^ 32 := Nat.lt_trans (Nat.mod_lt _ PP_pos) (by decide)
theorem back (n b c : Nat) (hb : b < 4294967296) (hc : c < 4294967296) {a s : List Nat} (ha : W4 a) (hs : ∀ x ∈ s, x < 256) : g10J4 realA n (fun v _ => some v) s b c true a = some (.v (.cell (.bool true))) := by
  obtain ⟨B1, B2⟩ := bytesOk ha
  obtain ⟨M1, M⟩ := makeOk (le32_lt (num a % PP))
  have hlv : leval (le32 (num a % PP)) = num a % PP := leval_le32 _ (P256 _)
  have M' : g29r0 realA (le32 (num a % PP)) = fm (num a) ∧ g29r1 realA (le32 (num a % PP)) = true := by
    rcases M with ⟨_, _, h3, h4⟩ | ⟨h1, _⟩
    · rw [hlv] at h3
      exact ⟨h3, h4⟩
    · exact absurd ⟨le32_length _, by rw [hlv]; exact Nat.mod_lt _ PP_pos⟩ h1
  obtain ⟨S1, S⟩ := makeOk hs
  obtain ⟨P1, P2⟩ := powOk ha (W4_small (show b < 18446744073709551616 by omega))
  obtain ⟨Q1, Q2⟩ := powOk ha (W4_small (show c < 18446744073709551616 by omega))
  obtain ⟨W1, W2⟩ := mulOk (fm_W4 (num a ^ num ([0, 0, 0, 0].set 0 b))) (fm_W4 (num a ^ num ([0, 0, 0, 0].set 0 c)))
  obtain ⟨O1, O2⟩ := addOk ha W40
  obtain ⟨R1, R2⟩ := powOk ha (W4_small (show b + c < 18446744073709551616 by omega))
  obtain ⟨Z1, Z2⟩ := powOk ha W40
  obtain ⟨T1, T2⟩ := smallOk (x := 1) (by decide)
  rw [num0, Nat.add_zero] at O2
  rw [num0, Nat.pow_zero] at Z2
  rw [num_fm, num_fm, num_small, num_small] at W2
  rw [num_small] at R2
  have L2 : realA.lq (fm (num a ^ b % PP * (num a ^ c % PP))) (fm (num a ^ (b + c))) = true := lqT (by rw [← Nat.mul_mod, Nat.pow_add])
  have N1 : realA.nb .add .u64 b c = b + c := nadd (by omega)
  refine backShape realA n b c (b + c) (g29r1 realA s) a s _ _ _ _ _ _ _ _ _ _ B1 B2 M1 M'.1 M'.2 S1 rfl rfl P1 P2 Q1 Q2 W1 W2 O1 O2 (lqT rfl) N1 R1 R2 L2 Z1 Z2 T1 T2 (by rw [fe1]; exact lqT rfl) (fun ht => ?_)
  rcases S with ⟨h1, h2, h3, h4⟩ | ⟨h1, h3, h4⟩
  · rw [h3]
    obtain ⟨y1, y2⟩ := bytesOk (fe_W4 (leval s))
    rw [num_fe (Nat.lt_trans h2 (by decide)), Nat.mod_eq_of_lt h2, le32_leval hs h1] at y2
    exact ⟨y1, by rw [y2]; show decide (s = s) = true; exact decide_eq_true rfl⟩
  · rw [h4] at ht
    cases ht
theorem natU32 {x : Int} (h : (Lit.int .u32 x).wf = true) : x.toNat < 4294967296 := by
  have : (0 ≤ x ∧ x ≤ 4294967295) := by simpa [Lit.wf, IntKind.min, IntKind.max, IntKind.signed, IntKind.bits] using h
  omega
theorem law10 (a : List Nat) (la : a.length = 4) (ha : ∀ x ∈ a, x < 2 ^ IntKind.bits .u64) (s : List Nat) (hs : ∀ x ∈ s, x < 256) (_ : s.length < 2 ^ 47) (x : Int) (hx : (Lit.int .u32 x).wf = true) (y : Int) (hy : (Lit.int .u32 y).wf = true) :
    g10o realA [.v (.agg [.nums .u64 4 a]), .v (.cell (.str s)), .v (.cell (.nat .u32 x.toNat)), .v (.cell (.nat .u32 y.toNat))] = some (true, .v (.cell (.bool true))) := by
  have e : g10v realA a s x.toNat y.toNat = some (.v (.cell (.bool true))) := (g10Shape realA 100000 x.toNat y.toNat a s ok11 r11).trans (back _ _ _ (natU32 hx) (natU32 hy) (W4_of la ha) hs)
  have k : g10ok realA a s x.toNat y.toNat = true := by unfold g10ok; rw [e]; rfl
  have r : g10r0 realA a s x.toNat y.toNat = true := by unfold g10r0; rw [e]; rfl
  show some (Nat.beq 4 4 && g10ok realA a s x.toNat y.toNat, AV.v (.cell (.bool (g10r0 realA a s x.toNat y.toNat)))) = _
  rw [k, r]
  rfl
end Go.Sx
