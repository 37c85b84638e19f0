import Derived.Test.YtcgjapkajaflpaaSxNr04b
namespace Go.Sx
def leval : List Nat → Nat
  | [] => 0
  | x :: r => x + 256 * leval r
def le32 (v : Nat) : List Nat := (List.range 32).map fun i => v / 256 ^ i % 256
theorem leval_lt {l : List Nat} (h : ∀ x ∈ l, x < 256) : leval l < 256 ^ l.length := by
  induction l with
  | nil => simp [leval]
  | cons x r ih =>
    have h1 := ih fun y hy => h y (List.mem_cons_of_mem _ hy)
    have h2 := h x (List.mem_cons_self ..)
    simp only [leval, List.length_cons, Nat.pow_succ]
    omega
theorem leval_append (a b : List Nat) : leval (a ++ b) = leval a + 256 ^ a.length * leval b := by
  induction a with
  | nil => simp [leval]
  | cons x r ih =>
    simp only [List.cons_append, leval, ih, List.length_cons, Nat.pow_succ]
    grind
theorem le32_leval {l : List Nat} (h : ∀ x ∈ l, x < 256) (hl : l.length = 32) : le32 (leval l) = l := by
  have key : ∀ (k : Nat) (l : List Nat), (∀ x ∈ l, x < 256) → l.length = k → (List.range k).map (fun i => leval l / 256 ^ i % 256) = l := by
    intro k
    induction k with
    | zero => intro l _ hl; rw [List.length_eq_zero_iff.1 hl]; rfl
    | succ k ih =>
      intro l h hl
      cases l with
      | nil => simp at hl
      | cons x r =>
        have h2 := h x (List.mem_cons_self ..)
        rw [List.range_succ_eq_map, List.map_cons, List.map_map]
        have e0 : leval (x :: r) / 256 ^ 0 % 256 = x := by simp only [leval, Nat.pow_zero, Nat.div_one]; omega
        rw [e0]
        congr 1
        refine Eq.trans ?_ (ih r (fun y hy => h y (List.mem_cons_of_mem _ hy)) (by simpa using hl))
        apply List.map_congr_left
        intro i _
        show leval (x :: r) / 256 ^ (i + 1) % 256 = _
        have : leval (x :: r) / 256 ^ (i + 1) = leval r / 256 ^ i := by
          rw [Nat.pow_succ, Nat.mul_comm, ← Nat.div_div_eq_div_mul]
          congr 1
          simp only [leval]
          omega
        rw [this]
  exact key 32 l h hl
def byteAt (a : List Nat) (i : Nat) : Nat := a.getD (i / 8) 0 / 2 ^ (8 * (i % 8)) % 256
theorem take_set (l : List Nat) (i y : Nat) (h : i < l.length) : (l.set i y).take (i + 1) = l.take i ++ [y] := by
  rw [List.take_add_one, List.getElem?_set_self h]
  congr 1
  rw [List.take_set_of_le (Nat.le_refl i)]
theorem bytesLoop (n : Nat) (a : List Nat) : ∀ (k i m : Nat) (l : List Nat), i + k = 32 → l.length = 32 → l.take i = (List.range i).map (byteAt a) →
    g23L3 realA n (fun v _ => some v) (m + k + 1) 32 (realA.ofN 32) i a 32 l = some (.v (.cell (.str ((List.range 32).map (byteAt a))))) := by
  intro k
  induction k with
  | zero =>
    intro i m l hi hl ht
    have e : i = 32 := by omega
    subst e
    rw [g23L3, lssF (show ¬ ((32 : Nat) : Int) < realA.ofN 32 from by show ¬ ((32 : Nat) : Int) < ((32 : Nat) : Int); omega), ← ht]
  | succ k ih =>
    intro i m l hi hl ht
    have e1 : realA.ib .quo .i64 (i : Int) 8 = ((i / 8 : Nat) : Int) := by
      show IntKind.wrap .i64 ((i : Int).tdiv 8) = _
      rw [Int.tdiv_eq_ediv_of_nonneg (by omega), wrap64 (by omega)]
      omega
    have e2 : realA.ib .rem .i64 (i : Int) 8 = ((i % 8 : Nat) : Int) := by
      show (i : Int).tmod 8 = _
      rw [Int.tmod_eq_emod_of_nonneg (by omega)]
      omega
    have e3 : realA.ib .mul .i64 8 ((i % 8 : Nat) : Int) = ((8 * (i % 8) : Nat) : Int) := by rw [mulI (by omega)]; omega
    have e4 : realA.ib .add .i64 (i : Int) 1 = ((i + 1 : Nat) : Int) := addN 1 (by omega)
    have e5 : ∀ x y, realA.n2n .u8 (realA.nsh .shr .u64 x y) = x / 2 ^ y % 256 := fun x y => rfl
    rw [show m + (k + 1) + 1 = (m + k + 1) + 1 from by omega, g23L3, lssT (show (i : Int) < realA.ofN 32 from by show (i : Int) < ((32 : Nat) : Int); omega)]
    simp only [g23J4, e1, e2, e3, e4, e5, negN, toNN, ltT (show i / 8 < 5 by omega), ltT (show i < 32 by omega)]
    refine ih (i + 1) m _ (by omega) (by simp [hl]) ?_
    rw [take_set _ _ _ (by omega), ht, List.range_succ, List.map_append]
    rfl
theorem byteAt_v5 (a0 a1 a2 a3 a4 : Nat) (A0 : a0 < 18446744073709551616) (A1 : a1 < 18446744073709551616) (A2 : a2 < 18446744073709551616) (A3 : a3 < 18446744073709551616) (i : Nat) (hi : i < 32) :
    byteAt [a0, a1, a2, a3, a4] i = v5 a0 a1 a2 a3 a4 / 256 ^ i % 256 := by
  unfold byteAt v5
  have : i = 0 ∨ i = 1 ∨ i = 2 ∨ i = 3 ∨ i = 4 ∨ i = 5 ∨ i = 6 ∨ i = 7 ∨ i = 8 ∨ i = 9 ∨ i = 10 ∨ i = 11 ∨ i = 12 ∨ i = 13 ∨ i = 14 ∨ i = 15 ∨ i = 16 ∨ i = 17 ∨ i = 18 ∨ i = 19 ∨ i = 20 ∨ i = 21 ∨ i = 22 ∨ i = 23 ∨ i = 24 ∨ i = 25 ∨ i = 26 ∨ i = 27 ∨ i = 28 ∨ i = 29 ∨ i = 30 ∨ i = 31 := by omega
  rcases this with h | h | h | h | h | h | h | h | h | h | h | h | h | h | h | h | h | h | h | h | h | h | h | h | h | h | h | h | h | h | h | h <;> subst h <;> simp only [Nat.reduceDiv, Nat.reduceMod, Nat.reduceMul, Nat.reducePow, List.getD_cons_zero, List.getD_cons_succ] <;> omega
theorem bytesE (m a0 a1 a2 a3 a4 : Nat) (A0 : a0 < 18446744073709551616) (A1 : a1 < 18446744073709551616) (A2 : a2 < 18446744073709551616) (A3 : a3 < 18446744073709551616) :
    g23 realA (m + 33) (fun v _ => some v) [a0, a1, a2, a3, a4] = some (.v (.cell (.str (le32 (v5 a0 a1 a2 a3 a4))))) := by
  have e : g23 realA (m + 33) (fun v _ => some v) [a0, a1, a2, a3, a4] = g23L3 realA (m + 33) (fun v _ => some v) (m + 32 + 1) 32 (realA.ofN 32) ((0 : Nat) : Int) [a0, a1, a2, a3, a4] 32 (List.replicate 32 0) := rfl
  rw [e, bytesLoop (m + 33) [a0, a1, a2, a3, a4] 32 0 m (List.replicate 32 0) rfl rfl rfl]
  congr 4
  apply List.map_congr_left
  intro i hi
  exact byteAt_v5 a0 a1 a2 a3 a4 A0 A1 A2 A3 i (by simpa using hi)
theorem bytesOk (a0 a1 a2 a3 a4 : Nat) (A0 : a0 < 18446744073709551616) (A1 : a1 < 18446744073709551616) (A2 : a2 < 18446744073709551616) (A3 : a3 < 18446744073709551616) :
    g23ok realA [a0, a1, a2, a3, a4] = true ∧ g23r0 realA [a0, a1, a2, a3, a4] = le32 (v5 a0 a1 a2 a3 a4) := by
  have e : g23v realA [a0, a1, a2, a3, a4] = some (.v (.cell (.str (le32 (v5 a0 a1 a2 a3 a4))))) := bytesE 99967 a0 a1 a2 a3 a4 A0 A1 A2 A3
  exact ⟨by unfold g23ok; rw [e]; rfl, by unfold g23r0; rw [e]; rfl⟩
theorem pushOk (b a0 a1 a2 a3 a4 : Nat) (hb : b < 256) (A0 : a0 < 18446744073709551616) (A1 : a1 < 18446744073709551616) (A2 : a2 < 18446744073709551616) (A3 : a3 < 18446744073709551616) (A4 : a4 < 18446744073709551616) (hL : v5 a0 a1 a2 a3 a4 < LL) :
    g22ok realA [a0, a1, a2, a3, a4] b = true ∧ ∃ z0 z1 z2 z3 z4, z0 < 18446744073709551616 ∧ z1 < 18446744073709551616 ∧ z2 < 18446744073709551616 ∧ z3 < 18446744073709551616 ∧ z4 < 18446744073709551616 ∧ v5 z0 z1 z2 z3 z4 = (256 * v5 a0 a1 a2 a3 a4 + b) % LL ∧
      g22r0 realA [a0, a1, a2, a3, a4] b = [z0, z1, z2, z3, z4] := by
  obtain ⟨z0, z1, z2, z3, z4, Z0, Z1, Z2, Z3, Z4, hz, he⟩ := pushE 99994 b a0 a1 a2 a3 a4 hb A0 A1 A2 A3 A4 hL
  have e : g22v realA [a0, a1, a2, a3, a4] b = some (.v (.agg [.nums .u64 5 [z0, z1, z2, z3, z4]])) := he
  exact ⟨by unfold g22ok; rw [e]; rfl, z0, z1, z2, z3, z4, Z0, Z1, Z2, Z3, Z4, hz, by unfold g22r0; rw [e]; rfl⟩
theorem LL_pos : 0 < LL := by decide
theorem reduceLoop (n : Nat) (s : List Nat) (hs : ∀ x ∈ s, x < 256) : ∀ (k m a0 a1 a2 a3 a4 : Nat), k ≤ s.length → k < 1000 → a0 < 18446744073709551616 → a1 < 18446744073709551616 → a2 < 18446744073709551616 → a3 < 18446744073709551616 → a4 < 18446744073709551616 → v5 a0 a1 a2 a3 a4 < LL →
    g10L3 realA n (fun v _ => some v) (m + k + 1) s ((k : Int) - 1) [a0, a1, a2, a3, a4] = some (.v (.cell (.str (le32 ((leval (s.take k) + 256 ^ k * v5 a0 a1 a2 a3 a4) % LL))))) := by
  intro k
  induction k with
  | zero =>
    intro m a0 a1 a2 a3 a4 _ _ A0 A1 A2 A3 A4 hv
    obtain ⟨k1, r1⟩ := bytesOk a0 a1 a2 a3 a4 A0 A1 A2 A3
    rw [g10L3, geqF (show ¬ (0 : Int) ≤ ((0 : Nat) : Int) - 1 by omega)]
    simp only [k1, r1, List.take_zero, leval, Nat.pow_zero, Nat.one_mul, Nat.zero_add, Nat.mod_eq_of_lt hv]
  | succ k ih =>
    intro m a0 a1 a2 a3 a4 hk hk2 A0 A1 A2 A3 A4 hv
    have e1 : ((k + 1 : Nat) : Int) - 1 = (k : Int) := by omega
    have hb : s.getD k 0 < 256 := getD_lt hs k
    obtain ⟨k1, z0, z1, z2, z3, z4, Z0, Z1, Z2, Z3, Z4, hz, r1⟩ := pushOk (s.getD k 0) a0 a1 a2 a3 a4 hb A0 A1 A2 A3 A4 hv
    rw [e1, show m + (k + 1) + 1 = (m + k + 1) + 1 from by omega, g10L3, geqT (show (0 : Int) ≤ (k : Int) by omega)]
    simp only [g10J5, negN, toNN, ltT (show k < s.length by omega), k1, r1]
    rw [subI (by omega), ih m z0 z1 z2 z3 z4 (by omega) (by omega) Z0 Z1 Z2 Z3 Z4 (by rw [hz]; exact Nat.mod_lt _ LL_pos), hz]
    have et : s.take (k + 1) = s.take k ++ [s.getD k 0] := by
      rw [List.take_add_one, List.getD_eq_getElem?_getD, List.getElem?_eq_getElem (by omega)]
      rfl
    have el : (s.take k).length = k := by rw [List.length_take]; omega
    rw [et, leval_append, el]
    congr 5
    rw [Nat.add_mod, Nat.mul_mod, Nat.mod_mod, ← Nat.mul_mod, ← Nat.add_mod]
    congr 1
    simp only [leval, Nat.pow_succ]
    grind
theorem reduceE (m : Nat) (s : List Nat) (hs : ∀ x ∈ s, x < 256) (hl : s.length < 9223372036854775808) : g10 realA (m + 65) (fun v _ => some v) s = some (.v (.cell (.str (le32 (leval (s.take 64) % LL))))) := by
  have e0 : realA.ib .sub .i64 (realA.mn (realA.ofN s.length) 64) 1 = ((min s.length 64 : Nat) : Int) - 1 := by
    have : realA.mn (realA.ofN s.length) 64 = ((min s.length 64 : Nat) : Int) := by
      show (if (64 : Int) < (s.length : Int) then (64 : Int) else (s.length : Int)) = _
      split <;> omega
    rw [this, subI (by omega)]
  unfold g10
  rw [e0, show m + 65 = (m + 64 - min s.length 64) + min s.length 64 + 1 from by omega]
  rw [reduceLoop _ s hs (min s.length 64) (m + 64 - min s.length 64) 0 0 0 0 0 (by omega) (by omega) (by omega) (by omega) (by omega) (by omega) (by omega) (by decide)]
  have e1 : s.take (min s.length 64) = s.take 64 := by rw [Nat.min_comm, ← List.take_take, List.take_length]
  rw [e1]
  rfl
theorem reduceOk {s : List Nat} (hs : ∀ x ∈ s, x < 256) (hl : s.length < 9223372036854775808) : g10ok realA s = true ∧ g10r0 realA s = le32 (leval (s.take 64) % LL) := by
  have e : g10v realA s = some (.v (.cell (.str (le32 (leval (s.take 64) % LL))))) := reduceE 99935 s hs hl
  exact ⟨by unfold g10ok; rw [e]; rfl, by unfold g10r0; rw [e]; rfl⟩
end Go.Sx
