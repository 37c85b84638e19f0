import Derived.Test.YtnnepclpggbjgaaSxDv
import Derived.Test.YtnnepclpggbjgaaSxS03V
namespace Go.Sx
theorem natadd {x y : Nat} (h : x + y < 18446744073709551616) : realA.nb .add .u64 x y = x + y := Nat.mod_eq_of_lt h
theorem natsub {x y : Nat} (hx : x < 18446744073709551616) (h : y ≤ x) : realA.nb .sub .u64 x y = x - y := by
  show (x + 18446744073709551616 - y) % 18446744073709551616 = _
  omega
theorem shr32 (x : Nat) : realA.nsh .shr .u64 x 32 = x / 4294967296 := rfl
theorem n32 (x : Nat) : realA.n2n .u32 x = x % 4294967296 := rfl
theorem nneqF {a b : Nat} (h : a = b) : realA.nc .neq a b = false := show (!(decide (a = b))) = false by rw [decide_eq_true h]; rfl
theorem nneqT {a b : Nat} (h : a ≠ b) : realA.nc .neq a b = true := show (!(decide (a = b))) = true by rw [decide_eq_false h]; rfl
theorem cmpHi {M x y p q : Nat} (hx : x < M) (h : p < q) : x + M * p < y + M * q := by
  have : M * (p + 1) ≤ M * q := Nat.mul_le_mul_left M h
  rw [Nat.mul_add, Nat.mul_one] at this
  omega
theorem lessLoop (n : Nat) (a b : List Nat) (ha : N8 a) (hb : N8 b) : ∀ (i m : Nat), i ≤ 8 → dv (a.drop i) = dv (b.drop i) →
    g48L2 realA n (fun v _ => some v) (m + i + 1) ((i : Int) - 1) a b = some (.v (.cell (.bool (decide (dv a < dv b))))) := by
  intro i
  induction i with
  | zero =>
    intro m _ h
    rw [List.drop_zero, List.drop_zero] at h
    rw [g48L2, geqF (by omega), decide_eq_false (by omega)]
  | succ i ih =>
    intro m hi h
    have hla := ha.1
    have hlb := hb.1
    have e1 : ((i + 1 : Nat) : Int) - 1 = (i : Int) := by omega
    rw [e1, show m + (i + 1) + 1 = (m + i + 1) + 1 from by omega, g48L2, geqT (by omega)]
    have sa := dv_split a i (by omega)
    have sb := dv_split b i (by omega)
    have da := dv_drop a i (by omega)
    have db := dv_drop b i (by omega)
    have la : dv (a.take i) < DD ^ i := by
      have := dv_lt (l := a.take i) (fun x hx => ha.2 x (List.mem_of_mem_take hx))
      rwa [List.length_take, Nat.min_eq_left (by omega)] at this
    have lb : dv (b.take i) < DD ^ i := by
      have := dv_lt (l := b.take i) (fun x hx => hb.2 x (List.mem_of_mem_take hx))
      rwa [List.length_take, Nat.min_eq_left (by omega)] at this
    by_cases he : a.getD i 0 = b.getD i 0
    · simp only [g48J4, negN, toNN, ltT (show i < 8 by omega), nneqF he]
      rw [subI (by omega)]
      exact ih m (by omega) (by rw [da, db, he, h])
    · simp only [g48J4, negN, toNN, ltT (show i < 8 by omega), nneqT he]
      have : realA.nc .lss (a.getD i 0) (b.getD i 0) = decide (dv a < dv b) := by
        show decide (a.getD i 0 < b.getD i 0) = _
        rw [decide_eq_decide, sa, sb, da, db, h]
        constructor
        · intro q
          exact cmpHi la (by omega)
        · intro q
          refine Classical.byContradiction fun hn => ?_
          have := cmpHi (y := dv (a.take i)) lb (show b.getD i 0 + 4294967296 * dv (b.drop (i + 1)) < a.getD i 0 + 4294967296 * dv (b.drop (i + 1)) by omega)
          omega
      rw [this]
theorem lessOk {a b : List Nat} (ha : N8 a) (hb : N8 b) : g48ok realA a b = true ∧ g48r0 realA a b = decide (dv a < dv b) := by
  have e : g48v realA a b = some (.v (.cell (.bool (decide (dv a < dv b))))) := by
    have h := lessLoop 100000 a b ha hb 8 99991 (Nat.le_refl 8) (by rw [List.drop_of_length_le (by rw [ha.1]; omega), List.drop_of_length_le (by rw [hb.1]; omega)])
    exact h
  exact ⟨by unfold g48ok; rw [e]; rfl, by unfold g48r0; rw [e]; rfl⟩
theorem minusLoop (n : Nat) (a b c : List Nat) (ha : N8 a) (hb : N8 b) : ∀ (r i m w : Nat) (o : List Nat), i + r = 8 → w ≤ 1 → N8 o → dv (o.take i) + dv (b.take i) = dv (a.take i) + DD ^ i * w - 0 →
    ∃ o' w', w' ≤ 1 ∧ N8 o' ∧ dv o' + dv b = dv a + DD ^ 8 * w' ∧ g44L4 realA n (fun v _ => some v) (m + r + 1) w i a b c o = some (.v (.agg [.nums .u32 8 o'])) := by
  intro r
  induction r with
  | zero =>
    intro i m w o hi hw ho h
    have : i = 8 := by omega
    subst this
    refine ⟨o, w, hw, ho, ?_, ?_⟩
    · rw [List.take_of_length_le (by rw [ho.1]; omega), List.take_of_length_le (by rw [hb.1]; omega), List.take_of_length_le (by rw [ha.1]; omega)] at h
      exact h
    · rw [g44L4, lssF (by omega)]
  | succ r ih =>
    intro i m w o hi hw ho h
    have xa := getD_ltD ha.2 i
    have xb := getD_ltD hb.2 i
    have e1 : realA.ib .add .i64 (i : Int) 1 = ((i + 1 : Nat) : Int) := addN 1 (by omega)
    have hlo := ho.1
    have hla := ha.1
    have hlb := hb.1
    have f1 : realA.nb .add .u64 (a.getD i 0) 4294967296 = a.getD i 0 + 4294967296 := natadd (by omega)
    have f2 : realA.nb .sub .u64 (a.getD i 0 + 4294967296) (b.getD i 0) = a.getD i 0 + 4294967296 - b.getD i 0 := natsub (by omega) (by omega)
    have f3 : realA.nb .sub .u64 (a.getD i 0 + 4294967296 - b.getD i 0) w = a.getD i 0 + 4294967296 - b.getD i 0 - w := natsub (by omega) (by omega)
    have f4 : realA.nb .sub .u64 1 ((a.getD i 0 + 4294967296 - b.getD i 0 - w) / 4294967296) = 1 - (a.getD i 0 + 4294967296 - b.getD i 0 - w) / 4294967296 := natsub (by omega) (by omega)
    have key : (a.getD i 0 + 4294967296 - b.getD i 0 - w) % 4294967296 + b.getD i 0 + w = a.getD i 0 + 4294967296 * (1 - (a.getD i 0 + 4294967296 - b.getD i 0 - w) / 4294967296) := by omega
    obtain ⟨o', w', g1, g2, g3, g4⟩ := ih (i + 1) m (1 - (a.getD i 0 + 4294967296 - b.getD i 0 - w) / 4294967296) (o.set i ((a.getD i 0 + 4294967296 - b.getD i 0 - w) % 4294967296)) (by omega) (by omega) ⟨by simp [hlo], set_ltD ho.2 (Nat.mod_lt _ (by decide)) i⟩ (by
      rw [dv_take_set _ _ _ (by omega), dv_take_succ a i (by omega), dv_take_succ b i (by omega)]
      generalize (a.getD i 0 + 4294967296 - b.getD i 0 - w) % 4294967296 = z at *
      generalize 1 - (a.getD i 0 + 4294967296 - b.getD i 0 - w) / 4294967296 = w2 at *
      simp only [Nat.pow_succ, Nat.sub_zero] at h ⊢
      generalize DD ^ i = M at *
      have k2 : M * z + M * b.getD i 0 + M * w = M * a.getD i 0 + M * 4294967296 * w2 := by
        rw [← Nat.mul_add, ← Nat.mul_add, key, Nat.mul_add, Nat.mul_assoc]
      show dv (o.take i) + M * z + (dv (b.take i) + M * b.getD i 0) = dv (a.take i) + M * a.getD i 0 + M * DD * w2
      unfold DD
      omega)
    refine ⟨o', w', g1, g2, g3, ?_⟩
    rw [show m + (r + 1) + 1 = (m + r + 1) + 1 from by omega, g44L4, lssT (by omega)]
    simp only [g44J6, negN, toNN, ltT (show i < 8 by omega), f1, f2, f3, shr32, n32, f4]
    rw [e1]
    exact g4
theorem minusOk {a b : List Nat} (ha : N8 a) (hb : N8 b) (hle : dv b ≤ dv a) : g44ok realA a b = true ∧ N8 (g44r0 realA a b) ∧ dv (g44r0 realA a b) + dv b = dv a := by
  obtain ⟨o, w, h1, h2, h3, h4⟩ := minusLoop 100000 a b [0, 0, 0, 0, 0, 0, 0, 0] ha hb 8 0 99991 0 [0, 0, 0, 0, 0, 0, 0, 0] rfl (by decide) N8_zero rfl
  have e : g44v realA a b = some (.v (.agg [.nums .u32 8 o])) := h4
  have r : g44r0 realA a b = o := by unfold g44r0; rw [e]; rfl
  refine ⟨by unfold g44ok; rw [e]; rfl, by rw [r]; exact h2, ?_⟩
  rw [r]
  have l1 := N8_lt h2
  have : w = 0 := by
    rcases Nat.eq_zero_or_pos w with q | q
    · exact q
    · have : w = 1 := by omega
      subst this
      have d8 : DD ^ 8 = 115792089237316195423570985008687907853269984665640564039457584007913129639936 := by decide
      rw [d8] at h3
      omega
  subst this
  rw [Nat.mul_zero, Nat.add_zero] at h3
  exact h3
theorem r45 : g45ok realA = true ∧ N8 (g45r0 realA) ∧ dv (g45r0 realA) = PP := by
  have e : g45v realA = some (.v (.agg [.nums .u32 8 [4294967277, 4294967295, 4294967295, 4294967295, 4294967295, 4294967295, 4294967295, 2147483647]])) := by kernel_rfl
  have r : g45r0 realA = [4294967277, 4294967295, 4294967295, 4294967295, 4294967295, 4294967295, 4294967295, 2147483647] := by unfold g45r0; rw [e]; rfl
  exact ⟨by unfold g45ok; rw [e]; rfl, by rw [r]; exact ⟨rfl, by decide⟩, by rw [r]; decide⟩
theorem belowT (A : Ar) (n m : Nat) (a p d : List Nat) (k1 : g45ok A = true) (k2 : g45r0 A = p) (k3 : g48ok A a p = true) (k4 : g48r0 A a p = true) : g41L1 A n (fun v _ => some v) (m + 1) a d = some (.v (.agg [.nums .u32 8 a])) := by
  rw [g41L1, k1, k2, k3, k4]
  rfl
theorem belowF (A : Ar) (n m : Nat) (a p q d : List Nat) (k1 : g45ok A = true) (k2 : g45r0 A = p) (k3 : g48ok A a p = true) (k4 : g48r0 A a p = false) (k5 : g44ok A a p = true) (k6 : g44r0 A a p = q) :
    g41L1 A n (fun v _ => some v) (m + 1) a d = g41L1 A n (fun v _ => some v) m q d := by
  rw [g41L1, k1, k2, k3, k4, k5, k6]
  rfl
theorem belowLoop (n : Nat) (d : List Nat) : ∀ (k m : Nat) (a : List Nat), N8 a → dv a < PP * (k + 1) → ∃ r, N8 r ∧ dv r = dv a % PP ∧ g41L1 realA n (fun v _ => some v) (m + k + 1) a d = some (.v (.agg [.nums .u32 8 r])) := by
  intro k
  induction k with
  | zero =>
    intro m a ha h
    obtain ⟨p1, p2, p3⟩ := r45
    obtain ⟨l1, l2⟩ := lessOk ha p2
    have hlt : dv a < PP := by rw [Nat.zero_add, Nat.mul_one] at h; exact h
    rw [p3, decide_eq_true hlt] at l2
    exact ⟨a, ha, (Nat.mod_eq_of_lt hlt).symm, belowT realA n m a _ d p1 rfl l1 l2⟩
  | succ k ih =>
    intro m a ha h
    obtain ⟨p1, p2, p3⟩ := r45
    obtain ⟨l1, l2⟩ := lessOk ha p2
    by_cases hlt : dv a < PP
    · rw [p3, decide_eq_true hlt] at l2
      exact ⟨a, ha, (Nat.mod_eq_of_lt hlt).symm, belowT realA n (m + (k + 1)) a _ d p1 rfl l1 l2⟩
    · rw [p3, decide_eq_false hlt] at l2
      obtain ⟨m1, m2, m3⟩ := minusOk ha p2 (by rw [p3]; omega)
      rw [p3] at m3
      obtain ⟨r, r1, r2, r3⟩ := ih m (g44r0 realA a (g45r0 realA)) m2 (by rw [Nat.mul_add, Nat.mul_one] at h; omega)
      refine ⟨r, r1, ?_, ?_⟩
      · rw [r2, ← m3, Nat.add_mod_right]
      · rw [show m + (k + 1) + 1 = (m + (k + 1)) + 1 from rfl]
        exact (belowF realA n (m + (k + 1)) a _ _ d p1 rfl l1 l2 m1 rfl).trans r3
theorem belowOk {a : List Nat} (ha : N8 a) : g41ok realA a = true ∧ N8 (g41r0 realA a) ∧ dv (g41r0 realA a) = dv a % PP := by
  obtain ⟨r, h1, h2, h3⟩ := belowLoop 100000 [0, 0, 0, 0, 0, 0, 0, 0] 2 99997 a ha (Nat.lt_of_lt_of_le (N8_lt ha) (by decide))
  have e : g41v realA a = some (.v (.agg [.nums .u32 8 r])) := h3
  have q : g41r0 realA a = r := by unfold g41r0; rw [e]; rfl
  exact ⟨by unfold g41ok; rw [e]; rfl, by rw [q]; exact h1, by rw [q]; exact h2⟩
theorem mulI {a b : Int} (h : -9223372036854775808 ≤ a * b ∧ a * b < 9223372036854775808) : realA.ib .mul .i64 a b = a * b := wrap64 h
theorem digStep (n m i : Nat) (a c d : List Nat) (hi : i < 4) (hd : d.length = 8) : g39L3 realA n (fun v _ => some v) (m + 1) i a c d = g39L3 realA n (fun v _ => some v) m ((i + 1 : Nat) : Int) a c ((d.set (2 * i) (a.getD i 0 % 4294967296)).set (2 * i + 1) (a.getD i 0 / 4294967296 % 4294967296)) := by
  have e1 : realA.ib .add .i64 (i : Int) 1 = ((i + 1 : Nat) : Int) := addN 1 (by omega)
  have e2 : realA.ib .mul .i64 2 (i : Int) = ((2 * i : Nat) : Int) := by rw [mulI (by omega)]; omega
  have e3 : realA.ib .add .i64 ((2 * i : Nat) : Int) 1 = ((2 * i + 1 : Nat) : Int) := addN 1 (by omega)
  rw [g39L3, lssT (by omega)]
  simp only [g39J5, negN, toNN, e2, e3, ltT hi, ltT (show 2 * i < 8 by omega), ltT (show 2 * i + 1 < 8 by omega), shr32, n32]
  rw [e1]
theorem digitsOk {a : List Nat} (ha : W4 a) : g39ok realA a = true ∧ N8 (g39r0 realA a) ∧ dv (g39r0 realA a) = num a % PP := by
  obtain ⟨a0, a1, a2, a3, rfl, h0, h1, h2, h3⟩ := ha
  have hN : N8 [a0 % 4294967296, a0 / 4294967296 % 4294967296, a1 % 4294967296, a1 / 4294967296 % 4294967296, a2 % 4294967296, a2 / 4294967296 % 4294967296, a3 % 4294967296, a3 / 4294967296 % 4294967296] := ⟨rfl, fun x hx => by
    simp only [List.mem_cons, List.not_mem_nil, or_false] at hx
    omega⟩
  obtain ⟨b1, b2, b3⟩ := belowOk hN
  have hv : dv [a0 % 4294967296, a0 / 4294967296 % 4294967296, a1 % 4294967296, a1 / 4294967296 % 4294967296, a2 % 4294967296, a2 / 4294967296 % 4294967296, a3 % 4294967296, a3 / 4294967296 % 4294967296] = num [a0, a1, a2, a3] := by
    show _ = v64 a0 a1 a2 a3
    simp only [dv]
    unfold v64
    omega
  rw [hv] at b3
  obtain ⟨m, hm⟩ : ∃ m, 99994 = m := ⟨_, rfl⟩
  have s0 := digStep (m + 6) (m + 5) 0 [a0, a1, a2, a3] [0, 0, 0, 0, 0, 0, 0, 0] [0, 0, 0, 0, 0, 0, 0, 0] (by decide) rfl
  have s1 := digStep (m + 6) (m + 4) 1 [a0, a1, a2, a3] [0, 0, 0, 0, 0, 0, 0, 0] [a0 % 4294967296, a0 / 4294967296 % 4294967296, 0, 0, 0, 0, 0, 0] (by decide) rfl
  have s2 := digStep (m + 6) (m + 3) 2 [a0, a1, a2, a3] [0, 0, 0, 0, 0, 0, 0, 0] [a0 % 4294967296, a0 / 4294967296 % 4294967296, a1 % 4294967296, a1 / 4294967296 % 4294967296, 0, 0, 0, 0] (by decide) rfl
  have s3 := digStep (m + 6) (m + 2) 3 [a0, a1, a2, a3] [0, 0, 0, 0, 0, 0, 0, 0] [a0 % 4294967296, a0 / 4294967296 % 4294967296, a1 % 4294967296, a1 / 4294967296 % 4294967296, a2 % 4294967296, a2 / 4294967296 % 4294967296, 0, 0] (by decide) rfl
  have s4 : g39L3 realA (m + 6) (fun v _ => some v) (m + 1 + 1) ((4 : Nat) : Int) [a0, a1, a2, a3] [0, 0, 0, 0, 0, 0, 0, 0] [a0 % 4294967296, a0 / 4294967296 % 4294967296, a1 % 4294967296, a1 / 4294967296 % 4294967296, a2 % 4294967296, a2 / 4294967296 % 4294967296, a3 % 4294967296, a3 / 4294967296 % 4294967296] = some (.v (.agg [.nums .u32 8 (g41r0 realA [a0 % 4294967296, a0 / 4294967296 % 4294967296, a1 % 4294967296, a1 / 4294967296 % 4294967296, a2 % 4294967296, a2 / 4294967296 % 4294967296, a3 % 4294967296, a3 / 4294967296 % 4294967296])])) := by
    rw [g39L3, lssF (by decide), b1]
  have e0 : g39 realA (m + 6) (fun v _ => some v) [a0, a1, a2, a3] = some (.v (.agg [.nums .u32 8 (g41r0 realA [a0 % 4294967296, a0 / 4294967296 % 4294967296, a1 % 4294967296, a1 / 4294967296 % 4294967296, a2 % 4294967296, a2 / 4294967296 % 4294967296, a3 % 4294967296, a3 / 4294967296 % 4294967296])])) :=
    Eq.trans (b := g39L3 realA (m + 6) (fun v _ => some v) (m + 5 + 1) ((0 : Nat) : Int) [a0, a1, a2, a3] [0, 0, 0, 0, 0, 0, 0, 0] [0, 0, 0, 0, 0, 0, 0, 0]) rfl (s0.trans (s1.trans (s2.trans (s3.trans s4))))
  have e : g39v realA [a0, a1, a2, a3] = _ := (show g39v realA [a0, a1, a2, a3] = g39 realA (m + 6) (fun v _ => some v) [a0, a1, a2, a3] by rw [← hm]; rfl).trans e0
  have q : g39r0 realA [a0, a1, a2, a3] = g41r0 realA [a0 % 4294967296, a0 / 4294967296 % 4294967296, a1 % 4294967296, a1 / 4294967296 % 4294967296, a2 % 4294967296, a2 / 4294967296 % 4294967296, a3 % 4294967296, a3 / 4294967296 % 4294967296] := by unfold g39r0; rw [e]; rfl
  exact ⟨by unfold g39ok; rw [e]; rfl, by rw [q]; exact b2, by rw [q]; exact b3⟩
theorem wordStep (n m i : Nat) (a c d : List Nat) (hi : i < 4) (ha : N8 a) : g40L3 realA n (fun v _ => some v) (m + 1) i a c d = g40L3 realA n (fun v _ => some v) m ((i + 1 : Nat) : Int) a c (d.set i (a.getD (2 * i) 0 + 4294967296 * a.getD (2 * i + 1) 0)) := by
  have e1 : realA.ib .add .i64 (i : Int) 1 = ((i + 1 : Nat) : Int) := addN 1 (by omega)
  have e2 : realA.ib .mul .i64 2 (i : Int) = ((2 * i : Nat) : Int) := by rw [mulI (by omega)]; omega
  have e3 : realA.ib .add .i64 ((2 * i : Nat) : Int) 1 = ((2 * i + 1 : Nat) : Int) := addN 1 (by omega)
  have x0 := getD_ltD ha.2 (2 * i)
  have x1 := getD_ltD ha.2 (2 * i + 1)
  have e4 : realA.nb .or .u64 (a.getD (2 * i) 0) (realA.nsh .shl .u64 (a.getD (2 * i + 1) 0) 32) = a.getD (2 * i) 0 + 4294967296 * a.getD (2 * i + 1) 0 := by
    show (a.getD (2 * i) 0) ||| (a.getD (2 * i + 1) 0 * 2 ^ 32 % 2 ^ 64) = _
    rw [Nat.mod_eq_of_lt (by omega), Nat.mul_comm (a.getD (2 * i + 1) 0), Nat.or_comm, orlo 32 _ _ (by omega), Nat.add_comm]
  rw [g40L3, lssT (by omega)]
  simp only [g40J5, negN, toNN, e2, e3, ltT hi, ltT (show 2 * i < 8 by omega), ltT (show 2 * i + 1 < 8 by omega), e4]
  rw [e1]
theorem wordsOk {a : List Nat} (ha : N8 a) : g40ok realA a = true ∧ g40r0 realA a = fe (dv a) := by
  have ha2 := ha
  obtain ⟨hl, hb⟩ := ha
  match a, hl with
  | [r0, r1, r2, r3, r4, r5, r6, r7], _ =>
    obtain ⟨m, hm⟩ : ∃ m, 99994 = m := ⟨_, rfl⟩
    have s0 := wordStep (m + 6) (m + 5) 0 [r0, r1, r2, r3, r4, r5, r6, r7] [0, 0, 0, 0] [0, 0, 0, 0] (by decide) ha2
    have s1 := wordStep (m + 6) (m + 4) 1 [r0, r1, r2, r3, r4, r5, r6, r7] [0, 0, 0, 0] [r0 + 4294967296 * r1, 0, 0, 0] (by decide) ha2
    have s2 := wordStep (m + 6) (m + 3) 2 [r0, r1, r2, r3, r4, r5, r6, r7] [0, 0, 0, 0] [r0 + 4294967296 * r1, r2 + 4294967296 * r3, 0, 0] (by decide) ha2
    have s3 := wordStep (m + 6) (m + 2) 3 [r0, r1, r2, r3, r4, r5, r6, r7] [0, 0, 0, 0] [r0 + 4294967296 * r1, r2 + 4294967296 * r3, r4 + 4294967296 * r5, 0] (by decide) ha2
    have b0 := hb r0 (by simp)
    have b1 := hb r1 (by simp)
    have b2 := hb r2 (by simp)
    have b3 := hb r3 (by simp)
    have b4 := hb r4 (by simp)
    have b5 := hb r5 (by simp)
    have b6 := hb r6 (by simp)
    have b7 := hb r7 (by simp)
    have hw : W4 [r0 + 4294967296 * r1, r2 + 4294967296 * r3, r4 + 4294967296 * r5, r6 + 4294967296 * r7] := ⟨_, _, _, _, rfl, by omega, by omega, by omega, by omega⟩
    have hn : num [r0 + 4294967296 * r1, r2 + 4294967296 * r3, r4 + 4294967296 * r5, r6 + 4294967296 * r7] = dv [r0, r1, r2, r3, r4, r5, r6, r7] := by
      show v64 (r0 + 4294967296 * r1) (r2 + 4294967296 * r3) (r4 + 4294967296 * r5) (r6 + 4294967296 * r7) = _
      simp only [dv]
      unfold v64
      omega
    have s4 : g40L3 realA (m + 6) (fun v _ => some v) (m + 1 + 1) ((4 : Nat) : Int) [r0, r1, r2, r3, r4, r5, r6, r7] [0, 0, 0, 0] [r0 + 4294967296 * r1, r2 + 4294967296 * r3, r4 + 4294967296 * r5, r6 + 4294967296 * r7] = some (.v (.agg [.nums .u64 4 [r0 + 4294967296 * r1, r2 + 4294967296 * r3, r4 + 4294967296 * r5, r6 + 4294967296 * r7]])) := by
      rw [g40L3, lssF (by decide)]
    have e0 : g40 realA (m + 6) (fun v _ => some v) [r0, r1, r2, r3, r4, r5, r6, r7] = some (.v (.agg [.nums .u64 4 (fe (dv [r0, r1, r2, r3, r4, r5, r6, r7]))])) := by
      rw [← hn, fe_num hw]
      exact Eq.trans (b := g40L3 realA (m + 6) (fun v _ => some v) (m + 5 + 1) ((0 : Nat) : Int) [r0, r1, r2, r3, r4, r5, r6, r7] [0, 0, 0, 0] [0, 0, 0, 0]) rfl (s0.trans (s1.trans (s2.trans (s3.trans s4))))
    have e : g40v realA [r0, r1, r2, r3, r4, r5, r6, r7] = _ := (show g40v realA [r0, r1, r2, r3, r4, r5, r6, r7] = g40 realA (m + 6) (fun v _ => some v) [r0, r1, r2, r3, r4, r5, r6, r7] by rw [← hm]; rfl).trans e0
    exact ⟨by unfold g40ok; rw [e]; rfl, by unfold g40r0; rw [e]; rfl⟩
end Go.Sx
namespace Go.Sx
theorem D8 : DD ^ 8 = 115792089237316195423570985008687907853269984665640564039457584007913129639936 := by decide
theorem below_fe {o : List Nat} (ho : N8 o) : g41ok realA o = true ∧ g40ok realA (g41r0 realA o) = true ∧ g40r0 realA (g41r0 realA o) = fm (dv o) := by
  obtain ⟨b1, b2, b3⟩ := belowOk ho
  obtain ⟨w1, w2⟩ := wordsOk b2
  rw [b3] at w2
  exact ⟨b1, w1, w2⟩
theorem g19Shape (A : Ar) (n : Nat) (a p x z r w : List Nat) (k0 : g45ok A = true) (k0' : g45r0 A = p) (k1 : g39ok A a = true) (k2 : g39r0 A a = x) (k3 : g44ok A p x = true) (k4 : g44r0 A p x = z) (k5 : g41ok A z = true) (k6 : g41r0 A z = r) (k7 : g40ok A r = true) (k8 : g40r0 A r = w) :
    g19 A n (fun v _ => some v) a = some (.v (.agg [.nums .u64 4 w])) := by
  unfold g19
  rw [k0, k0', k1, k2, k3, k4, k5, k6, k7, k8]
theorem refNeg {a : List Nat} (ha : W4 a) : ∃ x, g19ok realA a = true ∧ g19r0 realA a = fm x ∧ (x + num a) % PP = 0 := by
  obtain ⟨p1, p2, p3⟩ := r45
  obtain ⟨d1, d2, d3⟩ := digitsOk ha
  have hm := Nat.mod_lt (num a) PP_pos
  obtain ⟨m1, m2, m3⟩ := minusOk p2 d2 (by rw [p3, d3]; omega)
  rw [p3, d3] at m3
  obtain ⟨b1, w1, w2⟩ := below_fe m2
  have e : g19v realA a = some (.v (.agg [.nums .u64 4 (fm (dv (g44r0 realA (g45r0 realA) (g39r0 realA a))))])) := g19Shape realA 100000 a _ _ _ _ _ p1 rfl d1 rfl m1 rfl b1 rfl w1 w2
  refine ⟨dv (g44r0 realA (g45r0 realA) (g39r0 realA a)), by unfold g19ok; rw [e]; rfl, by unfold g19r0; rw [e]; rfl, ?_⟩
  rw [← Nat.add_mod_mod, m3, Nat.mod_self]
theorem maskD (x : Nat) : realA.nb .and .u64 x 4294967295 = x % 4294967296 := Nat.and_two_pow_sub_one_eq_mod x 32
def N16 (l : List Nat) : Prop := l.length = 16 ∧ ∀ x ∈ l, x < 4294967296
theorem rowLoop (n : Nat) (lg : Nat → Int → List Nat → List Nat → List Nat → Nat → List Nat → Option AV) (d x y : List Nat) (hx : N8 x) (hy : N8 y) (i : Nat) (hi : i < 8) : ∀ (r k m c : Nat) (l : List Nat), k + r = 8 → c < 4294967296 → N16 l → (∀ j, i + 8 ≤ j → l.getD j 0 = 0) →
    ∃ l', N16 l' ∧ (∀ j, i + 9 ≤ j → l'.getD j 0 = 0) ∧ dv l' = dv l + DD ^ (i + k) * (c + x.getD i 0 * dv (y.drop k)) ∧ g17L9 realA n (fun v _ => some v) lg (m + r + 1) 16 i c k d x y 16 l = lg 16 ((i + 1 : Nat) : Int) d x y 16 l' := by
  intro r
  induction r with
  | zero =>
    intro k m c l hk hc hl hz
    have : k = 8 := by omega
    subst this
    have e1 : realA.ib .add .i64 (i : Int) 1 = ((i + 1 : Nat) : Int) := addN 1 (by omega)
    have e2 : realA.ib .add .i64 (i : Int) 8 = ((i + 8 : Nat) : Int) := addN 8 (by omega)
    have hll := hl.1
    refine ⟨l.set (i + 8) c, ⟨by simp [hll], set_ltD hl.2 hc _⟩, fun j hj => ?_, ?_, ?_⟩
    · rw [getD_set_other _ _ _ _ (by omega)]
      exact hz j (by omega)
    · have := dv_set l (i + 8) c (by omega)
      rw [hz (i + 8) (Nat.le_refl _), Nat.mul_zero, Nat.add_zero] at this
      rw [this, List.drop_of_length_le (by rw [hy.1]; omega)]
      simp only [dv, Nat.mul_zero, Nat.add_zero]
    · rw [g17L9, lssF (by omega)]
      simp only [g17J14, e2, negN, toNN, ltT (show i + 8 < 16 by omega)]
      rw [e1]
  | succ r ih =>
    intro k m c l hk hc hl hz
    have e1 : realA.ib .add .i64 (k : Int) 1 = ((k + 1 : Nat) : Int) := addN 1 (by omega)
    have e2 : realA.ib .add .i64 (i : Int) (k : Int) = ((i + k : Nat) : Int) := addN k (by omega)
    have hll := hl.1
    have hyl := hy.1
    have xa := getD_ltD hx.2 i
    have xb := getD_ltD hy.2 k
    have xc := getD_ltD hl.2 (i + k)
    have hp : x.getD i 0 * y.getD k 0 ≤ 4294967295 * 4294967295 := mulB (by omega) (by omega)
    have f1 : realA.nb .mul .u64 (x.getD i 0) (y.getD k 0) = x.getD i 0 * y.getD k 0 := nmul (by omega)
    have f2 : realA.nb .add .u64 (l.getD (i + k) 0) (x.getD i 0 * y.getD k 0) = l.getD (i + k) 0 + x.getD i 0 * y.getD k 0 := natadd (by omega)
    have f3 : realA.nb .add .u64 (l.getD (i + k) 0 + x.getD i 0 * y.getD k 0) c = l.getD (i + k) 0 + x.getD i 0 * y.getD k 0 + c := natadd (by omega)
    obtain ⟨l', g1, g2, g3, g4⟩ := ih (k + 1) m ((l.getD (i + k) 0 + x.getD i 0 * y.getD k 0 + c) / 4294967296) (l.set (i + k) ((l.getD (i + k) 0 + x.getD i 0 * y.getD k 0 + c) % 4294967296)) (by omega) (by omega) ⟨by simp [hll], set_ltD hl.2 (Nat.mod_lt _ (by decide)) _⟩ (fun j hj => by rw [getD_set_other _ _ _ _ (by omega)]; exact hz j hj)
    refine ⟨l', g1, g2, ?_, ?_⟩
    · have hs := dv_set l (i + k) ((l.getD (i + k) 0 + x.getD i 0 * y.getD k 0 + c) % 4294967296) (by omega)
      have key : (l.getD (i + k) 0 + x.getD i 0 * y.getD k 0 + c) % 4294967296 + 4294967296 * ((l.getD (i + k) 0 + x.getD i 0 * y.getD k 0 + c) / 4294967296) = l.getD (i + k) 0 + x.getD i 0 * y.getD k 0 + c := by omega
      rw [g3, dv_drop y k (by omega), show i + (k + 1) = (i + k) + 1 from by omega, Nat.pow_succ]
      generalize (l.getD (i + k) 0 + x.getD i 0 * y.getD k 0 + c) % 4294967296 = z at *
      generalize (l.getD (i + k) 0 + x.getD i 0 * y.getD k 0 + c) / 4294967296 = w at *
      generalize DD ^ (i + k) = M at *
      generalize dv (l.set (i + k) z) = V at *
      generalize l.getD (i + k) 0 = q at *
      generalize x.getD i 0 = xx at *
      generalize y.getD k 0 = yy at *
      generalize dv (y.drop (k + 1)) = Y at *
      generalize dv l = L at *
      show V + M * 4294967296 * (w + xx * Y) = L + M * (c + xx * (yy + 4294967296 * Y))
      clear g1 g2 g3 g4 f1 f2 f3 hp
      grind
    · rw [show m + (r + 1) + 1 = (m + r + 1) + 1 from by omega, g17L9, lssT (by omega)]
      simp only [g17J11, e2, negN, toNN, ltT (show i + k < 16 by omega), ltT hi, ltT (show k < 8 by omega), f1, f2, f3, shr32, maskD]
      rw [e1]
      exact g4
theorem rowsLoop (N : Nat) (d x y : List Nat) (hx : N8 x) (hy : N8 y) : ∀ (r i m : Nat) (l : List Nat), i + r = 8 → N16 l → (∀ j, i + 8 ≤ j → l.getD j 0 = 0) →
    ∃ l', N16 l' ∧ dv l' = dv l + DD ^ i * (dv (x.drop i) * dv y) ∧ g17L5 realA (N + 9) (fun v _ => some v) (m + r + 1) 16 i d x y 16 l = g17L5 realA (N + 9) (fun v _ => some v) (m + 1) 16 ((8 : Nat) : Int) d x y 16 l' := by
  intro r
  induction r with
  | zero =>
    intro i m l hi hl hz
    have : i = 8 := by omega
    subst this
    refine ⟨l, hl, ?_, rfl⟩
    rw [List.drop_of_length_le (by rw [hx.1]; omega)]
    simp only [dv, Nat.zero_mul, Nat.mul_zero, Nat.add_zero]
  | succ r ih =>
    intro i m l hi hl hz
    have hxl := hx.1
    obtain ⟨l1, a1, a2, a3, a4⟩ := rowLoop (N + 9) (g17L5 realA (N + 9) (fun v _ => some v) (m + r + 1)) d x y hx hy i (by omega) 8 0 N 0 l rfl (by decide) hl hz
    obtain ⟨l2, b1, b2, b3⟩ := ih (i + 1) m l1 (by omega) a1 (fun j hj => a2 j (by omega))
    refine ⟨l2, b1, ?_, ?_⟩
    · rw [b2, a3, dv_drop x i (by omega), Nat.pow_succ, Nat.add_zero, List.drop_zero, Nat.zero_add]
      show dv l + DD ^ i * (x.getD i 0 * dv y) + DD ^ i * 4294967296 * (dv (x.drop (i + 1)) * dv y) = _
      generalize DD ^ i = M at *
      generalize x.getD i 0 = xx at *
      generalize dv (x.drop (i + 1)) = X at *
      generalize dv y = Y at *
      clear a1 a2 a3 a4 b1 b2 b3
      grind
    · rw [show m + (r + 1) + 1 = (m + r + 1) + 1 from by omega, g17L5, lssT (by omega)]
      simp only [g17J7]
      exact a4.trans b3
-- folding
theorem fold1 (n : Nat) (c d : List Nat) (l : List Nat) (hl : N16 l) : ∀ (r i m w : Nat) (o : List Nat), i + r = 8 → w < 100 → N8 o → dv (o.take i) + DD ^ i * w = dv (l.take i) + 38 * dv ((l.drop 8).take i) →
    ∃ o' w', w' < 100 ∧ N8 o' ∧ dv o' + DD ^ 8 * w' = dv (l.take 8) + 38 * dv (l.drop 8) ∧ g43L4 realA n (outH [0] none) (m + r + 1) 16 w i 16 l d o = g43L4 realA n (outH [0] none) (m + 1) 16 w' ((8 : Nat) : Int) 16 l d o' := by
  intro r
  induction r with
  | zero =>
    intro i m w o hi hw ho h
    have : i = 8 := by omega
    subst this
    refine ⟨o, w, hw, ho, ?_, rfl⟩
    rw [List.take_of_length_le (by rw [ho.1]; omega), List.take_of_length_le (l := l.drop 8) (by rw [List.length_drop, hl.1]; omega)] at h
    exact h
  | succ r ih =>
    intro i m w o hi hw ho h
    have hll := hl.1
    have hol := ho.1
    have xa := getD_ltD hl.2 i
    have xb := getD_ltD hl.2 (i + 8)
    have e1 : realA.ib .add .i64 (i : Int) 1 = ((i + 1 : Nat) : Int) := addN 1 (by omega)
    have e2 : realA.ib .add .i64 (i : Int) 8 = ((i + 8 : Nat) : Int) := addN 8 (by omega)
    have f1 : realA.nb .mul .u64 38 (l.getD (i + 8) 0) = 38 * l.getD (i + 8) 0 := nmul (by omega)
    have f2 : realA.nb .add .u64 (l.getD i 0) (38 * l.getD (i + 8) 0) = l.getD i 0 + 38 * l.getD (i + 8) 0 := natadd (by omega)
    have f3 : realA.nb .add .u64 (l.getD i 0 + 38 * l.getD (i + 8) 0) w = l.getD i 0 + 38 * l.getD (i + 8) 0 + w := natadd (by omega)
    have key : (l.getD i 0 + 38 * l.getD (i + 8) 0 + w) % 4294967296 + 4294967296 * ((l.getD i 0 + 38 * l.getD (i + 8) 0 + w) / 4294967296) = l.getD i 0 + 38 * l.getD (i + 8) 0 + w := by omega
    have hd : (l.drop 8).getD i 0 = l.getD (i + 8) 0 := by
      rw [List.getD_eq_getElem?_getD, List.getElem?_drop, Nat.add_comm, ← List.getD_eq_getElem?_getD]
    obtain ⟨o', w', g1, g2, g3, g4⟩ := ih (i + 1) m ((l.getD i 0 + 38 * l.getD (i + 8) 0 + w) / 4294967296) (o.set i ((l.getD i 0 + 38 * l.getD (i + 8) 0 + w) % 4294967296)) (by omega) (by omega) ⟨by simp [hol], set_ltD ho.2 (Nat.mod_lt _ (by decide)) i⟩ (by
      rw [dv_take_set _ _ _ (by omega), dv_take_succ l i (by omega), dv_take_succ (l.drop 8) i (by rw [List.length_drop]; omega), hd, Nat.pow_succ]
      generalize (l.getD i 0 + 38 * l.getD (i + 8) 0 + w) % 4294967296 = z at *
      generalize (l.getD i 0 + 38 * l.getD (i + 8) 0 + w) / 4294967296 = w2 at *
      generalize DD ^ i = M at *
      generalize l.getD i 0 = p at *
      generalize l.getD (i + 8) 0 = q at *
      show dv (o.take i) + M * z + M * 4294967296 * w2 = dv (l.take i) + M * p + 38 * (dv ((l.drop 8).take i) + M * q)
      clear ih f1 f2 f3 hd
      grind)
    refine ⟨o', w', g1, g2, g3, ?_⟩
    rw [show m + (r + 1) + 1 = (m + r + 1) + 1 from by omega, g43L4, lssT (by omega)]
    simp only [g43J6, negN, toNN, e2, ltT (show i < 16 by omega), ltT (show i + 8 < 16 by omega), ltT (show i < 8 by omega), f1, f2, f3, shr32, n32]
    rw [e1]
    exact g4
end Go.Sx
namespace Go.Sx
theorem ngtrF : realA.nc .gtr 0 0 = false := rfl
theorem ngtrT {a : Nat} (h : 0 < a) : realA.nc .gtr a 0 = true := decide_eq_true h
theorem fold2 (n : Nat) (lg : Nat → Nat → List Nat → List Nat → List Nat → Option (AV × Heap)) (V q : Nat) (l d : List Nat) : ∀ (r i m w : Nat) (o : List Nat), i + r = 8 → w < 4294967296 → N8 o → dv o + DD ^ i * w = V →
    ∃ o' w', N8 o' ∧ dv o' + DD ^ 8 * w' = V ∧ g43L13 realA n (outH [0] none) lg (m + r + 1) w i q l d o = lg w' q l d o' := by
  intro r
  induction r with
  | zero =>
    intro i m w o hi hw ho h
    have : i = 8 := by omega
    subst this
    exact ⟨o, w, ho, h, by rw [g43L13, lssF (by omega)]⟩
  | succ r ih =>
    intro i m w o hi hw ho h
    have hol := ho.1
    have xa := getD_ltD ho.2 i
    have e1 : realA.ib .add .i64 (i : Int) 1 = ((i + 1 : Nat) : Int) := addN 1 (by omega)
    have f1 : realA.nb .add .u64 w (o.getD i 0) = w + o.getD i 0 := natadd (by omega)
    have hs := dv_set o i ((w + o.getD i 0) % 4294967296) (by omega)
    have key : (w + o.getD i 0) % 4294967296 + 4294967296 * ((w + o.getD i 0) / 4294967296) = w + o.getD i 0 := by omega
    obtain ⟨o', w', g1, g2, g3⟩ := ih (i + 1) m ((w + o.getD i 0) / 4294967296) (o.set i ((w + o.getD i 0) % 4294967296)) (by omega) (by omega) ⟨by simp [hol], set_ltD ho.2 (Nat.mod_lt _ (by decide)) i⟩ (by
      rw [Nat.pow_succ]
      generalize (w + o.getD i 0) % 4294967296 = z at *
      generalize (w + o.getD i 0) / 4294967296 = w2 at *
      generalize DD ^ i = M at *
      generalize o.getD i 0 = p at *
      generalize dv (o.set i z) = S at *
      show S + M * 4294967296 * w2 = V
      clear ih f1 e1
      grind)
    refine ⟨o', w', g1, g2, ?_⟩
    rw [show m + (r + 1) + 1 = (m + r + 1) + 1 from by omega, g43L13, lssT (by omega)]
    simp only [g43J15, negN, toNN, ltT (show i < 8 by omega), f1, shr32, n32]
    rw [e1]
    exact g3
theorem fold3 (N m c q : Nat) (l d o : List Nat) (hc : 0 < c) (hc2 : c < 100) (ho : N8 o) :
    ∃ o' c', N8 o' ∧ dv o' + DD ^ 8 * c' = dv o + 38 * c ∧ g43L9 realA (N + 9) (outH [0] none) (m + 1) c q l d o = g43L9 realA (N + 9) (outH [0] none) m c' q l d o' := by
  have f1 : realA.nb .mul .u64 c 38 = 38 * c := by rw [nmul (by omega), Nat.mul_comm]
  obtain ⟨o', c', a1, a2, a3⟩ := fold2 (N + 9) (g43L9 realA (N + 9) (outH [0] none) m) (dv o + 38 * c) q l d 8 0 N (38 * c) o rfl (by omega) ho (by rw [Nat.pow_zero, Nat.one_mul])
  refine ⟨o', c', a1, a2, ?_⟩
  rw [g43L9, ngtrT hc]
  simp only [g43J10, f1]
  exact a3
theorem fold4 (n m q : Nat) (l d o : List Nat) (ho : N8 o) :
    g43L9 realA n (outH [0] none) (m + 1) 0 q l d o = some (.v (.agg [.nums .u32 8 (g41r0 realA o)]), [(0, ⟨[.nums .u64 q l], 22, 2⟩)]) := by
  obtain ⟨b1, b2, b3⟩ := belowOk ho
  rw [g43L9, ngtrF, b1]
  rfl
theorem D8PP (x y : Nat) : (x + DD ^ 8 * y) % PP = (x + 38 * y) % PP := by
  have : DD ^ 8 = 2 * PP + 38 := by decide
  rw [this, Nat.add_mul, ← Nat.add_assoc, Nat.add_right_comm, Nat.mul_comm 2, Nat.mul_assoc, Nat.add_mul_mod_self_left]
theorem fold5 (N m c q : Nat) (l d o : List Nat) (hc2 : c < 100) (ho : N8 o) :
    ∃ o', N8 o' ∧ dv o' % PP = (dv o + DD ^ 8 * c) % PP ∧ g43L9 realA (N + 9) (outH [0] none) (m + 3) c q l d o = some (.v (.agg [.nums .u32 8 (g41r0 realA o')]), [(0, ⟨[.nums .u64 q l], 22, 2⟩)]) := by
  have lo := N8_lt ho
  rcases Nat.eq_zero_or_pos c with h0 | h0
  · subst h0
    exact ⟨o, ho, by rw [Nat.mul_zero, Nat.add_zero], fold4 _ _ _ _ _ _ ho⟩
  · obtain ⟨o1, c1, a1, a2, a3⟩ := fold3 N (m + 2) c q l d o h0 hc2 ho
    have l1 := N8_lt a1
    rw [a3]
    have hv : (dv o + DD ^ 8 * c) % PP = (dv o1 + DD ^ 8 * c1) % PP := by rw [D8PP, ← a2]
    rcases Nat.eq_zero_or_pos c1 with h1 | h1
    · subst h1
      exact ⟨o1, a1, by rw [hv, Nat.mul_zero, Nat.add_zero], fold4 _ _ _ _ _ _ a1⟩
    · have hc1 : c1 = 1 := by
        rw [D8] at a2
        omega
      subst hc1
      obtain ⟨o2, c2, b1, b2, b3⟩ := fold3 N (m + 1) 1 q l d o1 (by decide) (by decide) a1
      have l2 := N8_lt b1
      have hc2' : c2 = 0 := by
        rw [D8] at a2 b2
        omega
      subst hc2'
      refine ⟨o2, b1, ?_, b3.trans (fold4 _ _ _ _ _ _ b1)⟩
      rw [hv, D8PP, ← b2, Nat.mul_zero, Nat.add_zero]
theorem foldOk {l : List Nat} (hl : N16 l) : g43ok realA 16 16 l = true ∧ N8 (g43r0 realA 16 16 l) ∧ dv (g43r0 realA 16 16 l) = dv l % PP := by
  obtain ⟨o, c, h1, h2, h3, h4⟩ := fold1 100000 [0, 0, 0, 0, 0, 0, 0, 0] [0, 0, 0, 0, 0, 0, 0, 0] l hl 8 0 99991 0 [0, 0, 0, 0, 0, 0, 0, 0] rfl (by decide) N8_zero rfl
  obtain ⟨o', k1, k2, k3⟩ := fold5 99991 99997 c 16 l [0, 0, 0, 0, 0, 0, 0, 0] o h1 h2
  obtain ⟨b1, b2, b3⟩ := belowOk k1
  have e : g43v realA 16 16 l = some (.v (.agg [.nums .u32 8 (g41r0 realA o')]), [(0, ⟨[.nums .u64 16 l], 22, 2⟩)]) := by
    have s0 : ∀ n, g43 realA n (outH [0] none) 16 16 l = g43L4 realA n (outH [0] none) n 16 0 0 16 l [0, 0, 0, 0, 0, 0, 0, 0] [0, 0, 0, 0, 0, 0, 0, 0] := fun _ => rfl
    have s1 : ∀ n m, g43L4 realA n (outH [0] none) (m + 1) 16 c ((8 : Nat) : Int) 16 l [0, 0, 0, 0, 0, 0, 0, 0] o = g43L9 realA n (outH [0] none) n c 16 l [0, 0, 0, 0, 0, 0, 0, 0] o := fun n m => by
      rw [g43L4, lssF (by decide)]
      rfl
    exact (s0 100000).trans (h4.trans ((s1 100000 99991).trans k3))
  have r : g43r0 realA 16 16 l = g41r0 realA o' := by unfold g43r0; rw [e]; rfl
  refine ⟨by unfold g43ok; rw [e]; rfl, by rw [r]; exact b2, ?_⟩
  rw [r, b3, k2, h3, ← D8PP, ← dv_split l 8 (by rw [hl.1]; decide)]
-- the product
theorem g17Start (A : Ar) (n : Nat) (a b x y : List Nat) (k1 : g39ok A a = true) (k2 : g39r0 A a = x) (k3 : g39ok A b = true) (k4 : g39r0 A b = y) (e1 : A.le 16 16 = true) (e2 : A.le 128 140737488355328 = true) : g17 A n (fun v _ => some v) a b = g17L5 A n (fun v _ => some v) n 16 0 [0, 0, 0, 0] x y 16 (List.replicate 16 0) := by
  unfold g17
  rw [k1, k2, k3, k4, e1, e2]
theorem g17End (A : Ar) (n m : Nat) (d x y l r w : List Nat) (e : A.ic .lss ((8 : Nat) : Int) 8 = false) (k1 : g43ok A 16 16 l = true) (k2 : g43r0 A 16 16 l = r) (k3 : g40ok A r = true) (k4 : g40r0 A r = w) : g17L5 A n (fun v _ => some v) (m + 1) 16 ((8 : Nat) : Int) d x y 16 l = some (.v (.agg [.nums .u64 4 w])) := by
  rw [g17L5, e, k1, k2, k3, k4]
theorem N16_zero : N16 (List.replicate 16 0) := ⟨by decide, by decide⟩
theorem getD_zero16 (j : Nat) : (List.replicate 16 0).getD j 0 = 0 := by
  rw [List.getD_eq_getElem?_getD, List.getElem?_replicate]
  split <;> rfl
theorem refMul {a b : List Nat} (ha : W4 a) (hb : W4 b) : g17ok realA a b = true ∧ g17r0 realA a b = fm (num a * num b) := by
  obtain ⟨d1, d2, d3⟩ := digitsOk ha
  obtain ⟨e1, e2, e3⟩ := digitsOk hb
  obtain ⟨l, h1, h2, h3⟩ := rowsLoop 99991 [0, 0, 0, 0] _ _ d2 e2 8 0 99991 (List.replicate 16 0) rfl N16_zero (fun j _ => getD_zero16 j)
  obtain ⟨b1, b2, b3⟩ := foldOk h1
  obtain ⟨w1, w2⟩ := wordsOk b2
  rw [b3] at w2
  have hv : fe (dv l % PP) = fm (num a * num b) := fm_congr (x := dv l) (by
    rw [h2, List.drop_zero, d3, e3, Nat.pow_zero, Nat.one_mul, show dv (List.replicate 16 0) = 0 by decide, Nat.zero_add, ← Nat.mul_mod])
  rw [hv] at w2
  have e : g17v realA a b = some (.v (.agg [.nums .u64 4 (fm (num a * num b))])) :=
    (g17Start realA 100000 a b _ _ d1 rfl e1 rfl rfl rfl).trans (h3.trans (g17End realA 100000 99991 _ _ _ _ _ _ rfl b1 rfl w1 w2))
  exact ⟨by unfold g17ok; rw [e]; rfl, by unfold g17r0; rw [e]; rfl⟩
end Go.Sx
