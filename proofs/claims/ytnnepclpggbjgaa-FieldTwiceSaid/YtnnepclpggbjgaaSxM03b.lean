import Derived.Test.YtnnepclpggbjgaaSxE03
import Derived.Test.YtnnepclpggbjgaaSxS03L6
namespace Go.Sx
theorem twiceShape (A : Ar) (n b : Nat) (t : Bool) (a o x d two m neg neg2 z pw_ : List Nat) (f1 : g12ok A a [0, 0, 0, 0] = true) (f2 : g12r0 A a [0, 0, 0, 0] = o) (d1 : g12ok A a a = true) (d2 : g12r0 A a a = d) (t1 : g23ok A 2 = true) (t2 : g23r0 A 2 = two)
    (m1 : g16ok A two a = true) (m2 : g16r0 A two a = m) (n1 : g18ok A a = true) (n2 : g18r0 A a = neg) (p1 : g18ok A neg = true) (p2 : g18r0 A neg = neg2) (z1 : g12ok A a neg = true) (z2 : g12r0 A a neg = z) (w1 : g24ok A two ([0, 0, 0, 0].set 0 b) = true) (w2 : g24r0 A two ([0, 0, 0, 0].set 0 b) = pw_)
    (o1 : g22ok A a = true) (o2 : g22r0 A a = t) (o3 : A.nc .eql (A.nb .rem .u64 (o.getD 0 0) 2) 1 = t) (b1 : A.lq d m = true) (b2 : A.lq neg2 o = true) (b3 : A.lq z [0, 0, 0, 0] = true) (b4 : A.lq x pw_ = true) :
    g6J9 A n (fun v _ => some v) b true a x = some (.v (.cell (.bool true))) := by
  unfold g6J9
  rw [f1, f2, d1, d2, t1, t2, m1, m2, b1, n1, n2, p1, p2, b2, z1, z2, b3, w1, w2, b4, o1, o2, o3]
  cases t <;> rfl
theorem oddO (a : Nat) : realA.nc .eql (realA.nb .rem .u64 ((fm a).getD 0 0) 2) 1 = decide (a % PP % 2 = 1) := by
  have h0 : (fm a).getD 0 0 = a % PP % 18446744073709551616 := rfl
  have h1 : realA.nc .eql (realA.nb .rem .u64 ((fm a).getD 0 0) 2) 1 = decide ((fm a).getD 0 0 % 2 = 1) := rfl
  rw [h1, h0]
  have : a % PP % 18446744073709551616 % 2 = a % PP % 2 := by omega
  rw [this]
theorem dbl (k m b : Nat) (hb : b < 256) {a : List Nat} (ha : W4 a) : ∀ (r i : Nat), i + r = b → g6L6 realA (m + 300) (fun v _ => some v) (k + r + 1) b true i a (fm (2 ^ i)) = g6J9 realA (m + 300) (fun v _ => some v) b true a (fm (2 ^ b)) := by
  intro r
  induction r with
  | zero =>
    intro i hi
    have : i = b := by omega
    subst this
    rw [g6L6, lssF (show ¬ (i : Int) < realA.ofN i from by show ¬ (i : Int) < (i : Int); omega)]
  | succ r ih =>
    intro i hi
    obtain ⟨s1, s2⟩ := addOk (fm_W4 (2 ^ i)) (fm_W4 (2 ^ i))
    have e1 : realA.ib .add .i64 (i : Int) 1 = ((i + 1 : Nat) : Int) := addN 1 (by omega)
    have e2 : g12r0 realA (fm (2 ^ i)) (fm (2 ^ i)) = fm (2 ^ (i + 1)) := by
      rw [s2, num_fm]
      exact fm_congr (by rw [← Nat.add_mod, Nat.pow_succ, Nat.mul_two])
    rw [show k + (r + 1) + 1 = (k + r + 1) + 1 from by omega, g6L6, lssT (show (i : Int) < realA.ofN b from by show (i : Int) < (b : Int); omega)]
    simp only [g6J8, s1, e2]
    rw [e1]
    exact ih (i + 1) (by omega)
theorem num_small (b : Nat) : num ([0, 0, 0, 0].set 0 b) = b := by show v64 b 0 0 0 = b; unfold v64; omega
theorem W4_small {b : Nat} (hb : b < 18446744073709551616) : W4 ([0, 0, 0, 0].set 0 b) := ⟨b, 0, 0, 0, rfl, hb, by decide, by decide, by decide⟩
theorem j9 (n b : Nat) (hb : b < 256) {a : List Nat} (ha : W4 a) : g6J9 realA n (fun v _ => some v) b true a (fm (2 ^ b)) = some (.v (.cell (.bool true))) := by
  obtain ⟨f1, f2⟩ := addOk ha W40
  obtain ⟨d1, d2⟩ := addOk ha ha
  obtain ⟨t1, t2⟩ := smallOk (x := 2) (by decide)
  obtain ⟨m1, m2⟩ := mulOk (fe_W4 2) ha
  obtain ⟨x, n1, n2, n3⟩ := negOk ha
  obtain ⟨y, p1, p2, p3⟩ := negOk (fm_W4 x)
  obtain ⟨z1, z2⟩ := addOk ha (fm_W4 x)
  obtain ⟨w1, w2⟩ := powOk (fe_W4 2) (W4_small (show b < 18446744073709551616 by omega))
  obtain ⟨o1, o2⟩ := oddOk ha
  rw [num_fe2] at m2
  rw [num_fm] at p3 z2
  rw [num0, Nat.add_zero] at f2
  rw [num_fe2, num_small] at w2
  have z3 : fm (num a + x % PP) = [0, 0, 0, 0] := (fm_congr (cancelD n3)).trans fm0
  exact twiceShape realA n b _ a _ _ _ _ _ _ _ _ _ f1 f2 d1 d2 t1 t2 m1 m2 n1 n2 p1 p2 z1 z2 w1 w2 o1 o2 (oddO _) (lqT (by rw [Nat.two_mul])) (lqT (cancelC n3 p3)) (by rw [z3]; exact lqSelf _) (lqT rfl)
theorem g6Shape (A : Ar) (n b : Nat) (a s : List Nat) (k1 : g11ok A = true) (k2 : g11r0 A = true) (t1 : g23ok A 1 = true) (t2 : g23r0 A 1 = s) : g6 A n (fun v _ => some v) a b = g6L6 A n (fun v _ => some v) n b true 0 a s := by
  unfold g6 g6J4
  rw [k1, k2, t1, t2]
  rfl
theorem twice (m b : Nat) (hb : b < 256) {a : List Nat} (ha : W4 a) : g6 realA (m + 300) (fun v _ => some v) a b = some (.v (.cell (.bool true))) := by
  obtain ⟨t1, t2⟩ := smallOk (x := 1) (by decide)
  have st : g6L6 realA (m + 300) (fun v _ => some v) (m + 300) b true 0 a (fm 1) = g6L6 realA (m + 300) (fun v _ => some v) (m + 299 - b + b + 1) b true ((0 : Nat) : Int) a (fm (2 ^ 0)) := by
    rw [show m + 299 - b + b + 1 = m + 300 by omega]
    rfl
  exact (g6Shape realA (m + 300) b a _ ok11 r11 t1 (t2.trans fe1)).trans (st.trans ((dbl (m + 299 - b) m b hb ha b 0 (by omega)).trans (j9 _ b hb ha)))
theorem natU8 {x : Int} (h : (Lit.int .u8 x).wf = true) : x.toNat < 256 := by
  have : (0 ≤ x ∧ x ≤ 255) := by simpa [Lit.wf, IntKind.min, IntKind.max, IntKind.signed, IntKind.bits] using h
  omega
theorem law6 (a : List Nat) (la : a.length = 4) (ha : ∀ x ∈ a, x < 2 ^ IntKind.bits .u64) (x : Int) (hx : (Lit.int .u8 x).wf = true) :
    g6o realA [.v (.agg [.nums .u64 4 a]), .v (.cell (.nat .u8 x.toNat))] = some (true, .v (.cell (.bool true))) := by
  have e : g6v realA a x.toNat = some (.v (.cell (.bool true))) := twice 99700 x.toNat (natU8 hx) (W4_of la ha)
  have k : g6ok realA a x.toNat = true := by unfold g6ok; rw [e]; rfl
  have r : g6r0 realA a x.toNat = true := by unfold g6r0; rw [e]; rfl
  show some (Nat.beq 4 4 && g6ok realA a x.toNat, AV.v (.cell (.bool (g6r0 realA a x.toNat)))) = _
  rw [k, r]
  rfl
end Go.Sx
