import Derived.Test.YtnnepclpggbjgaaSxLe
import Derived.Test.YtnnepclpggbjgaaSxDv
import Derived.Test.YtnnepclpggbjgaaSxS03V
namespace Go.Sx
theorem natadd {x y : Nat} (h : x + y < 18446744073709551616) : realA.nb .add .u64 x y = x + y := Nat.mod_eq_of_lt h
theorem natsub {x y : Nat} (hx : x < 18446744073709551616) (h : y ≤ x) : realA.nb .sub .u64 x y = x - y := by
  show (x + 18446744073709551616 - y) % 18446744073709551616 = _
  omega
theorem shr32 (x : Nat) : realA.nsh .shr .u64 x 32 = x / 4294967296 := rfl
theorem n32 (x : Nat) : realA.n2n .u32 x = x % 4294967296 := rfl
theorem nneqF {a b : Nat} (h : a = b) : realA.nc .neq a b = false := show (!(decide (a = b))) = false by rw [decide_eq_true h]; rfl
theorem nneqT {a b : Nat} (h : a ≠ b) : realA.nc .neq a b = true := show (!(decide (a = b))) = true by rw [decide_eq_false h]; rfl
theorem cmpHi {M x y p q : Nat} (hx : x < M) (h : p < q) : x + M * p < y + M * q := by
  have : M * (p + 1) ≤ M * q := Nat.mul_le_mul_left M h
  rw [Nat.mul_add, Nat.mul_one] at this
  omega
theorem lessLoop (n : Nat) (a b : List Nat) (ha : N8 a) (hb : N8 b) : ∀ (i m : Nat), i ≤ 8 → dv (a.drop i) = dv (b.drop i) →
    g48L2 realA n (fun v _ => some v) (m + i + 1) ((i : Int) - 1) a b = some (.v (.cell (.bool (decide (dv a < dv b))))) := by
  intro i
  induction i with
  | zero =>
    intro m _ h
    rw [List.drop_zero, List.drop_zero] at h
    rw [g48L2, geqF (by omega), decide_eq_false (by omega)]
  | succ i ih =>
    intro m hi h
    have hla := ha.1
    have hlb := hb.1
    have e1 : ((i + 1 : Nat) : Int) - 1 = (i : Int) := by omega
    rw [e1, show m + (i + 1) + 1 = (m + i + 1) + 1 from by omega, g48L2, geqT (by omega)]
    have sa := dv_split a i (by omega)
    have sb := dv_split b i (by omega)
    have da := dv_drop a i (by omega)
    have db := dv_drop b i (by omega)
    have la : dv (a.take i) < DD ^ i := by
      have := dv_lt (l := a.take i) (fun x hx => ha.2 x (List.mem_of_mem_take hx))
      rwa [List.length_take, Nat.min_eq_left (by omega)] at this
    have lb : dv (b.take i) < DD ^ i := by
      have := dv_lt (l := b.take i) (fun x hx => hb.2 x (List.mem_of_mem_take hx))
      rwa [List.length_take, Nat.min_eq_left (by omega)] at this
    by_cases he : a.getD i 0 = b.getD i 0
    · simp only [g48J4, negN, toNN, ltT (show i < 8 by omega), nneqF he]
      rw [subI (by omega)]
      exact ih m (by omega) (by rw [da, db, he, h])
    · simp only [g48J4, negN, toNN, ltT (show i < 8 by omega), nneqT he]
      have : realA.nc .lss (a.getD i 0) (b.getD i 0) = decide (dv a < dv b) := by
        show decide (a.getD i 0 < b.getD i 0) = _
        rw [decide_eq_decide, sa, sb, da, db, h]
        constructor
        · intro q
          exact cmpHi la (by omega)
        · intro q
          refine Classical.byContradiction fun hn => ?_
          have := cmpHi (y := dv (a.take i)) lb (show b.getD i 0 + 4294967296 * dv (b.drop (i + 1)) < a.getD i 0 + 4294967296 * dv (b.drop (i + 1)) by omega)
          omega
      rw [this]
theorem lessOk {a b : List Nat} (ha : N8 a) (hb : N8 b) : g48ok realA a b = true ∧ g48r0 realA a b = decide (dv a < dv b) := by
  have e : g48v realA a b = some (.v (.cell (.bool (decide (dv a < dv b))))) := by
    have h := lessLoop 100000 a b ha hb 8 99991 (Nat.le_refl 8) (by rw [List.drop_of_length_le (by rw [ha.1]; omega), List.drop_of_length_le (by rw [hb.1]; omega)])
    exact h
  exact ⟨by unfold g48ok; rw [e]; rfl, by unfold g48r0; rw [e]; rfl⟩
theorem minusLoop (n : Nat) (a b c : List Nat) (ha : N8 a) (hb : N8 b) : ∀ (r i m w : Nat) (o : List Nat), i + r = 8 → w ≤ 1 → N8 o → dv (o.take i) + dv (b.take i) = dv (a.take i) + DD ^ i * w - 0 →
    ∃ o' w', w' ≤ 1 ∧ N8 o' ∧ dv o' + dv b = dv a + DD ^ 8 * w' ∧ g44L4 realA n (fun v _ => some v) (m + r + 1) w i a b c o = some (.v (.agg [.nums .u32 8 o'])) := by
  intro r
  induction r with
  | zero =>
    intro i m w o hi hw ho h
    have : i = 8 := by omega
    subst this
    refine ⟨o, w, hw, ho, ?_, ?_⟩
    · rw [List.take_of_length_le (by rw [ho.1]; omega), List.take_of_length_le (by rw [hb.1]; omega), List.take_of_length_le (by rw [ha.1]; omega)] at h
      exact h
    · rw [g44L4, lssF (by omega)]
  | succ r ih =>
    intro i m w o hi hw ho h
    have xa := getD_ltD ha.2 i
    have xb := getD_ltD hb.2 i
    have e1 : realA.ib .add .i64 (i : Int) 1 = ((i + 1 : Nat) : Int) := addN 1 (by omega)
    have hlo := ho.1
    have hla := ha.1
    have hlb := hb.1
    have f1 : realA.nb .add .u64 (a.getD i 0) 4294967296 = a.getD i 0 + 4294967296 := natadd (by omega)
    have f2 : realA.nb .sub .u64 (a.getD i 0 + 4294967296) (b.getD i 0) = a.getD i 0 + 4294967296 - b.getD i 0 := natsub (by omega) (by omega)
    have f3 : realA.nb .sub .u64 (a.getD i 0 + 4294967296 - b.getD i 0) w = a.getD i 0 + 4294967296 - b.getD i 0 - w := natsub (by omega) (by omega)
    have f4 : realA.nb .sub .u64 1 ((a.getD i 0 + 4294967296 - b.getD i 0 - w) / 4294967296) = 1 - (a.getD i 0 + 4294967296 - b.getD i 0 - w) / 4294967296 := natsub (by omega) (by omega)
    have key : (a.getD i 0 + 4294967296 - b.getD i 0 - w) % 4294967296 + b.getD i 0 + w = a.getD i 0 + 4294967296 * (1 - (a.getD i 0 + 4294967296 - b.getD i 0 - w) / 4294967296) := by omega
    obtain ⟨o', w', g1, g2, g3, g4⟩ := ih (i + 1) m (1 - (a.getD i 0 + 4294967296 - b.getD i 0 - w) / 4294967296) (o.set i ((a.getD i 0 + 4294967296 - b.getD i 0 - w) % 4294967296)) (by omega) (by omega) ⟨by simp [hlo], set_ltD ho.2 (Nat.mod_lt _ (by decide)) i⟩ (by
      rw [dv_take_set _ _ _ (by omega), dv_take_succ a i (by omega), dv_take_succ b i (by omega)]
      generalize (a.getD i 0 + 4294967296 - b.getD i 0 - w) % 4294967296 = z at *
      generalize 1 - (a.getD i 0 + 4294967296 - b.getD i 0 - w) / 4294967296 = w2 at *
      simp only [Nat.pow_succ, Nat.sub_zero] at h ⊢
      generalize DD ^ i = M at *
      have k2 : M * z + M * b.getD i 0 + M * w = M * a.getD i 0 + M * 4294967296 * w2 := by
        rw [← Nat.mul_add, ← Nat.mul_add, key, Nat.mul_add, Nat.mul_assoc]
      show dv (o.take i) + M * z + (dv (b.take i) + M * b.getD i 0) = dv (a.take i) + M * a.getD i 0 + M * DD * w2
      unfold DD
      omega)
    refine ⟨o', w', g1, g2, g3, ?_⟩
    rw [show m + (r + 1) + 1 = (m + r + 1) + 1 from by omega, g44L4, lssT (by omega)]
    simp only [g44J6, negN, toNN, ltT (show i < 8 by omega), f1, f2, f3, shr32, n32, f4]
    rw [e1]
    exact g4
theorem minusOk {a b : List Nat} (ha : N8 a) (hb : N8 b) (hle : dv b ≤ dv a) : g44ok realA a b = true ∧ N8 (g44r0 realA a b) ∧ dv (g44r0 realA a b) + dv b = dv a := by
  obtain ⟨o, w, h1, h2, h3, h4⟩ := minusLoop 100000 a b [0, 0, 0, 0, 0, 0, 0, 0] ha hb 8 0 99991 0 [0, 0, 0, 0, 0, 0, 0, 0] rfl (by decide) N8_zero rfl
  have e : g44v realA a b = some (.v (.agg [.nums .u32 8 o])) := h4
  have r : g44r0 realA a b = o := by unfold g44r0; rw [e]; rfl
  refine ⟨by unfold g44ok; rw [e]; rfl, by rw [r]; exact h2, ?_⟩
  rw [r]
  have l1 := N8_lt h2
  have : w = 0 := by
    rcases Nat.eq_zero_or_pos w with q | q
    · exact q
    · have : w = 1 := by omega
      subst this
      have d8 : DD ^ 8 = 115792089237316195423570985008687907853269984665640564039457584007913129639936 := by decide
      rw [d8] at h3
      omega
  subst this
  rw [Nat.mul_zero, Nat.add_zero] at h3
  exact h3
theorem r45 : g45ok realA = true ∧ N8 (g45r0 realA) ∧ dv (g45r0 realA) = PP := by
  have e : g45v realA = some (.v (.agg [.nums .u32 8 [4294967277, 4294967295, 4294967295, 4294967295, 4294967295, 4294967295, 4294967295, 2147483647]])) := by kernel_rfl
  have r : g45r0 realA = [4294967277, 4294967295, 4294967295, 4294967295, 4294967295, 4294967295, 4294967295, 2147483647] := by unfold g45r0; rw [e]; rfl
  exact ⟨by unfold g45ok; rw [e]; rfl, by rw [r]; exact ⟨rfl, by decide⟩, by rw [r]; decide⟩
theorem belowT (A : Ar) (n m : Nat) (a p d : List Nat) (k1 : g45ok A = true) (k2 : g45r0 A = p) (k3 : g48ok A a p = true) (k4 : g48r0 A a p = true) : g41L1 A n (fun v _ => some v) (m + 1) a d = some (.v (.agg [.nums .u32 8 a])) := by
  rw [g41L1, k1, k2, k3, k4]
  rfl
theorem belowF (A : Ar) (n m : Nat) (a p q d : List Nat) (k1 : g45ok A = true) (k2 : g45r0 A = p) (k3 : g48ok A a p = true) (k4 : g48r0 A a p = false) (k5 : g44ok A a p = true) (k6 : g44r0 A a p = q) :
    g41L1 A n (fun v _ => some v) (m + 1) a d = g41L1 A n (fun v _ => some v) m q d := by
  rw [g41L1, k1, k2, k3, k4, k5, k6]
  rfl
theorem belowLoop (n : Nat) (d : List Nat) : ∀ (k m : Nat) (a : List Nat), N8 a → dv a < PP * (k + 1) → ∃ r, N8 r ∧ dv r = dv a % PP ∧ g41L1 realA n (fun v _ => some v) (m + k + 1) a d = some (.v (.agg [.nums .u32 8 r])) := by
  intro k
  induction k with
  | zero =>
    intro m a ha h
    obtain ⟨p1, p2, p3⟩ := r45
    obtain ⟨l1, l2⟩ := lessOk ha p2
    have hlt : dv a < PP := by rw [Nat.zero_add, Nat.mul_one] at h; exact h
    rw [p3, decide_eq_true hlt] at l2
    exact ⟨a, ha, (Nat.mod_eq_of_lt hlt).symm, belowT realA n m a _ d p1 rfl l1 l2⟩
  | succ k ih =>
    intro m a ha h
    obtain ⟨p1, p2, p3⟩ := r45
    obtain ⟨l1, l2⟩ := lessOk ha p2
    by_cases hlt : dv a < PP
    · rw [p3, decide_eq_true hlt] at l2
      exact ⟨a, ha, (Nat.mod_eq_of_lt hlt).symm, belowT realA n (m + (k + 1)) a _ d p1 rfl l1 l2⟩
    · rw [p3, decide_eq_false hlt] at l2
      obtain ⟨m1, m2, m3⟩ := minusOk ha p2 (by rw [p3]; omega)
      rw [p3] at m3
      obtain ⟨r, r1, r2, r3⟩ := ih m (g44r0 realA a (g45r0 realA)) m2 (by rw [Nat.mul_add, Nat.mul_one] at h; omega)
      refine ⟨r, r1, ?_, ?_⟩
      · rw [r2, ← m3, Nat.add_mod_right]
      · rw [show m + (k + 1) + 1 = (m + (k + 1)) + 1 from rfl]
        exact (belowF realA n (m + (k + 1)) a _ _ d p1 rfl l1 l2 m1 rfl).trans r3
theorem belowOk {a : List Nat} (ha : N8 a) : g41ok realA a = true ∧ N8 (g41r0 realA a) ∧ dv (g41r0 realA a) = dv a % PP := by
  obtain ⟨r, h1, h2, h3⟩ := belowLoop 100000 [0, 0, 0, 0, 0, 0, 0, 0] 2 99997 a ha (Nat.lt_of_lt_of_le (N8_lt ha) (by decide))
  have e : g41v realA a = some (.v (.agg [.nums .u32 8 r])) := h3
  have q : g41r0 realA a = r := by unfold g41r0; rw [e]; rfl
  exact ⟨by unfold g41ok; rw [e]; rfl, by rw [q]; exact h1, by rw [q]; exact h2⟩
theorem mulI {a b : Int} (h : -9223372036854775808 ≤ a * b ∧ a * b < 9223372036854775808) : realA.ib .mul .i64 a b = a * b := wrap64 h
theorem digStep (n m i : Nat) (a c d : List Nat) (hi : i < 4) (hd : d.length = 8) : g39L3 realA n (fun v _ => some v) (m + 1) i a c d = g39L3 realA n (fun v _ => some v) m ((i + 1 : Nat) : Int) a c ((d.set (2 * i) (a.getD i 0 % 4294967296)).set (2 * i + 1) (a.getD i 0 / 4294967296 % 4294967296)) := by
  have e1 : realA.ib .add .i64 (i : Int) 1 = ((i + 1 : Nat) : Int) := addN 1 (by omega)
  have e2 : realA.ib .mul .i64 2 (i : Int) = ((2 * i : Nat) : Int) := by rw [mulI (by omega)]; omega
  have e3 : realA.ib .add .i64 ((2 * i : Nat) : Int) 1 = ((2 * i + 1 : Nat) : Int) := addN 1 (by omega)
  rw [g39L3, lssT (by omega)]
  simp only [g39J5, negN, toNN, e2, e3, ltT hi, ltT (show 2 * i < 8 by omega), ltT (show 2 * i + 1 < 8 by omega), shr32, n32]
  rw [e1]
theorem digitsOk {a : List Nat} (ha : W4 a) : g39ok realA a = true ∧ N8 (g39r0 realA a) ∧ dv (g39r0 realA a) = num a % PP := by
  obtain ⟨a0, a1, a2, a3, rfl, h0, h1, h2, h3⟩ := ha
  have hN : N8 [a0 % 4294967296, a0 / 4294967296 % 4294967296, a1 % 4294967296, a1 / 4294967296 % 4294967296, a2 % 4294967296, a2 / 4294967296 % 4294967296, a3 % 4294967296, a3 / 4294967296 % 4294967296] := ⟨rfl, fun x hx => by
    simp only [List.mem_cons, List.not_mem_nil, or_false] at hx
    omega⟩
  obtain ⟨b1, b2, b3⟩ := belowOk hN
  have hv : dv [a0 % 4294967296, a0 / 4294967296 % 4294967296, a1 % 4294967296, a1 / 4294967296 % 4294967296, a2 % 4294967296, a2 / 4294967296 % 4294967296, a3 % 4294967296, a3 / 4294967296 % 4294967296] = num [a0, a1, a2, a3] := by
    show _ = v64 a0 a1 a2 a3
    simp only [dv]
    unfold v64
    omega
  rw [hv] at b3
  obtain ⟨m, hm⟩ : ∃ m, 99994 = m := ⟨_, rfl⟩
  have s0 := digStep (m + 6) (m + 5) 0 [a0, a1, a2, a3] [0, 0, 0, 0, 0, 0, 0, 0] [0, 0, 0, 0, 0, 0, 0, 0] (by decide) rfl
  have s1 := digStep (m + 6) (m + 4) 1 [a0, a1, a2, a3] [0, 0, 0, 0, 0, 0, 0, 0] [a0 % 4294967296, a0 / 4294967296 % 4294967296, 0, 0, 0, 0, 0, 0] (by decide) rfl
  have s2 := digStep (m + 6) (m + 3) 2 [a0, a1, a2, a3] [0, 0, 0, 0, 0, 0, 0, 0] [a0 % 4294967296, a0 / 4294967296 % 4294967296, a1 % 4294967296, a1 / 4294967296 % 4294967296, 0, 0, 0, 0] (by decide) rfl
  have s3 := digStep (m + 6) (m + 2) 3 [a0, a1, a2, a3] [0, 0, 0, 0, 0, 0, 0, 0] [a0 % 4294967296, a0 / 4294967296 % 4294967296, a1 % 4294967296, a1 / 4294967296 % 4294967296, a2 % 4294967296, a2 / 4294967296 % 4294967296, 0, 0] (by decide) rfl
  have s4 : g39L3 realA (m + 6) (fun v _ => some v) (m + 1 + 1) ((4 : Nat) : Int) [a0, a1, a2, a3] [0, 0, 0, 0, 0, 0, 0, 0] [a0 % 4294967296, a0 / 4294967296 % 4294967296, a1 % 4294967296, a1 / 4294967296 % 4294967296, a2 % 4294967296, a2 / 4294967296 % 4294967296, a3 % 4294967296, a3 / 4294967296 % 4294967296] = some (.v (.agg [.nums .u32 8 (g41r0 realA [a0 % 4294967296, a0 / 4294967296 % 4294967296, a1 % 4294967296, a1 / 4294967296 % 4294967296, a2 % 4294967296, a2 / 4294967296 % 4294967296, a3 % 4294967296, a3 / 4294967296 % 4294967296])])) := by
    rw [g39L3, lssF (by decide), b1]
  have e0 : g39 realA (m + 6) (fun v _ => some v) [a0, a1, a2, a3] = some (.v (.agg [.nums .u32 8 (g41r0 realA [a0 % 4294967296, a0 / 4294967296 % 4294967296, a1 % 4294967296, a1 / 4294967296 % 4294967296, a2 % 4294967296, a2 / 4294967296 % 4294967296, a3 % 4294967296, a3 / 4294967296 % 4294967296])])) :=
    Eq.trans (b := g39L3 realA (m + 6) (fun v _ => some v) (m + 5 + 1) ((0 : Nat) : Int) [a0, a1, a2, a3] [0, 0, 0, 0, 0, 0, 0, 0] [0, 0, 0, 0, 0, 0, 0, 0]) rfl (s0.trans (s1.trans (s2.trans (s3.trans s4))))
  have e : g39v realA [a0, a1, a2, a3] = _ := (show g39v realA [a0, a1, a2, a3] = g39 realA (m + 6) (fun v _ => some v) [a0, a1, a2, a3] by rw [← hm]; rfl).trans e0
  have q : g39r0 realA [a0, a1, a2, a3] = g41r0 realA [a0 % 4294967296, a0 / 4294967296 % 4294967296, a1 % 4294967296, a1 / 4294967296 % 4294967296, a2 % 4294967296, a2 / 4294967296 % 4294967296, a3 % 4294967296, a3 / 4294967296 % 4294967296] := by unfold g39r0; rw [e]; rfl
  exact ⟨by unfold g39ok; rw [e]; rfl, by rw [q]; exact b2, by rw [q]; exact b3⟩
theorem wordStep (n m i : Nat) (a c d : List Nat) (hi : i < 4) (ha : N8 a) : g40L3 realA n (fun v _ => some v) (m + 1) i a c d = g40L3 realA n (fun v _ => some v) m ((i + 1 : Nat) : Int) a c (d.set i (a.getD (2 * i) 0 + 4294967296 * a.getD (2 * i + 1) 0)) := by
  have e1 : realA.ib .add .i64 (i : Int) 1 = ((i + 1 : Nat) : Int) := addN 1 (by omega)
  have e2 : realA.ib .mul .i64 2 (i : Int) = ((2 * i : Nat) : Int) := by rw [mulI (by omega)]; omega
  have e3 : realA.ib .add .i64 ((2 * i : Nat) : Int) 1 = ((2 * i + 1 : Nat) : Int) := addN 1 (by omega)
  have x0 := getD_ltD ha.2 (2 * i)
  have x1 := getD_ltD ha.2 (2 * i + 1)
  have e4 : realA.nb .or .u64 (a.getD (2 * i) 0) (realA.nsh .shl .u64 (a.getD (2 * i + 1) 0) 32) = a.getD (2 * i) 0 + 4294967296 * a.getD (2 * i + 1) 0 := by
    show (a.getD (2 * i) 0) ||| (a.getD (2 * i + 1) 0 * 2 ^ 32 % 2 ^ 64) = _
    rw [Nat.mod_eq_of_lt (by omega), Nat.mul_comm (a.getD (2 * i + 1) 0), Nat.or_comm, orlo 32 _ _ (by omega), Nat.add_comm]
  rw [g40L3, lssT (by omega)]
  simp only [g40J5, negN, toNN, e2, e3, ltT hi, ltT (show 2 * i < 8 by omega), ltT (show 2 * i + 1 < 8 by omega), e4]
  rw [e1]
theorem wordsOk {a : List Nat} (ha : N8 a) : g40ok realA a = true ∧ g40r0 realA a = fe (dv a) := by
  have ha2 := ha
  obtain ⟨hl, hb⟩ := ha
  match a, hl with
  | [r0, r1, r2, r3, r4, r5, r6, r7], _ =>
    obtain ⟨m, hm⟩ : ∃ m, 99994 = m := ⟨_, rfl⟩
    have s0 := wordStep (m + 6) (m + 5) 0 [r0, r1, r2, r3, r4, r5, r6, r7] [0, 0, 0, 0] [0, 0, 0, 0] (by decide) ha2
    have s1 := wordStep (m + 6) (m + 4) 1 [r0, r1, r2, r3, r4, r5, r6, r7] [0, 0, 0, 0] [r0 + 4294967296 * r1, 0, 0, 0] (by decide) ha2
    have s2 := wordStep (m + 6) (m + 3) 2 [r0, r1, r2, r3, r4, r5, r6, r7] [0, 0, 0, 0] [r0 + 4294967296 * r1, r2 + 4294967296 * r3, 0, 0] (by decide) ha2
    have s3 := wordStep (m + 6) (m + 2) 3 [r0, r1, r2, r3, r4, r5, r6, r7] [0, 0, 0, 0] [r0 + 4294967296 * r1, r2 + 4294967296 * r3, r4 + 4294967296 * r5, 0] (by decide) ha2
    have b0 := hb r0 (by simp)
    have b1 := hb r1 (by simp)
    have b2 := hb r2 (by simp)
    have b3 := hb r3 (by simp)
    have b4 := hb r4 (by simp)
    have b5 := hb r5 (by simp)
    have b6 := hb r6 (by simp)
    have b7 := hb r7 (by simp)
    have hw : W4 [r0 + 4294967296 * r1, r2 + 4294967296 * r3, r4 + 4294967296 * r5, r6 + 4294967296 * r7] := ⟨_, _, _, _, rfl, by omega, by omega, by omega, by omega⟩
    have hn : num [r0 + 4294967296 * r1, r2 + 4294967296 * r3, r4 + 4294967296 * r5, r6 + 4294967296 * r7] = dv [r0, r1, r2, r3, r4, r5, r6, r7] := by
      show v64 (r0 + 4294967296 * r1) (r2 + 4294967296 * r3) (r4 + 4294967296 * r5) (r6 + 4294967296 * r7) = _
      simp only [dv]
      unfold v64
      omega
    have s4 : g40L3 realA (m + 6) (fun v _ => some v) (m + 1 + 1) ((4 : Nat) : Int) [r0, r1, r2, r3, r4, r5, r6, r7] [0, 0, 0, 0] [r0 + 4294967296 * r1, r2 + 4294967296 * r3, r4 + 4294967296 * r5, r6 + 4294967296 * r7] = some (.v (.agg [.nums .u64 4 [r0 + 4294967296 * r1, r2 + 4294967296 * r3, r4 + 4294967296 * r5, r6 + 4294967296 * r7]])) := by
      rw [g40L3, lssF (by decide)]
    have e0 : g40 realA (m + 6) (fun v _ => some v) [r0, r1, r2, r3, r4, r5, r6, r7] = some (.v (.agg [.nums .u64 4 (fe (dv [r0, r1, r2, r3, r4, r5, r6, r7]))])) := by
      rw [← hn, fe_num hw]
      exact Eq.trans (b := g40L3 realA (m + 6) (fun v _ => some v) (m + 5 + 1) ((0 : Nat) : Int) [r0, r1, r2, r3, r4, r5, r6, r7] [0, 0, 0, 0] [0, 0, 0, 0]) rfl (s0.trans (s1.trans (s2.trans (s3.trans s4))))
    have e : g40v realA [r0, r1, r2, r3, r4, r5, r6, r7] = _ := (show g40v realA [r0, r1, r2, r3, r4, r5, r6, r7] = g40 realA (m + 6) (fun v _ => some v) [r0, r1, r2, r3, r4, r5, r6, r7] by rw [← hm]; rfl).trans e0
    exact ⟨by unfold g40ok; rw [e]; rfl, by unfold g40r0; rw [e]; rfl⟩
end Go.Sx
namespace Go.Sx
end Go.Sx
namespace Go.Sx
end Go.Sx
