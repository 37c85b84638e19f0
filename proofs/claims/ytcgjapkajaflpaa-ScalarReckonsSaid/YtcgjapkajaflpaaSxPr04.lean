import Derived.Test.YtcgjapkajaflpaaSxMr04
import Derived.Test.YtcgjapkajaflpaaSxAr
namespace Go.Sx
def zi (l : List Nat) : List Int := l.map Int.ofNat
theorem zi_len (l : List Nat) : (zi l).length = l.length := by simp [zi]
theorem zi_get (l : List Nat) (i : Nat) : (zi l).getD i 0 = ((l.getD i 0 : Nat) : Int) := by
  unfold zi
  rw [List.getD_eq_getElem?_getD, List.getD_eq_getElem?_getD, List.getElem?_map]
  cases l[i]? <;> rfl
theorem zi_set (l : List Nat) (i x : Nat) : (zi l).set i (x : Int) = zi (l.set i x) := by
  unfold zi
  rw [List.map_set]; rfl
theorem zi_rep (n : Nat) : List.replicate n (0 : Int) = zi (List.replicate n 0) := by simp [zi]
def ORD : List Nat := [237, 211, 245, 92, 26, 99, 18, 88, 214, 156, 247, 162, 222, 249, 222, 20, 0, 0, 0, 0, 0, 0, 0, 0, 0, 0, 0, 0, 0, 0, 0, 16]
theorem ORD_val : leval ORD = LL := by decide
theorem ORD_lt : ∀ x ∈ ORD, x < 256 := by decide
theorem ord_v : g24v realA = some (sL 700 none 32 1, [(700, ⟨[.ints .i64 32 (zi ORD)], 3, 2⟩)]) := by kernel_rfl
theorem ord_ok : g24ok realA = true := (congrArg g24is ord_v).trans rfl
theorem ord_0 : g24r0 realA = 32 := (congrArg g24g0 ord_v).trans rfl
theorem ord_1 : g24r1 realA = 32 := (congrArg g24g1 ord_v).trans rfl
theorem ord_2 : g24r2 realA = zi ORD := (congrArg g24g2 ord_v).trans rfl
theorem lv_split (a : List Nat) (k : Nat) (h : k < a.length) : leval a = leval (a.take k) + 256 ^ k * (a.getD k 0 + 256 * leval (a.drop (k + 1))) := by
  have h1 : leval a = leval (a.take k ++ a.drop k) := by rw [List.take_append_drop]
  rw [h1, leval_append, leval_drop a k h, List.length_take, Nat.min_eq_left (by omega)]
theorem lv_take {a : List Nat} (ha : ∀ x ∈ a, x < 256) (k : Nat) (h : k ≤ a.length) : leval (a.take k) < 256 ^ k := by
  have := leval_lt (l := a.take k) fun x hx => ha x (List.mem_of_mem_take hx)
  rwa [List.length_take, Nat.min_eq_left h] at this
theorem lex1 {p x y u v z : Nat} (hx : x < p) (h : u < v) : x + p * (u + 256 * z) < y + p * (v + 256 * z) := by
  have h1 : p * (u + 256 * z + 1) ≤ p * (v + 256 * z) := Nat.mul_le_mul_left p (by omega)
  rw [Nat.mul_add, Nat.mul_one] at h1
  omega
theorem lexd {a b : List Nat} (ha : ∀ x ∈ a, x < 256) (hb : ∀ x ∈ b, x < 256) (k : Nat) (h1 : k < a.length) (h2 : k < b.length) (h : leval (a.drop (k + 1)) = leval (b.drop (k + 1))) (hne : a.getD k 0 ≠ b.getD k 0) : decide (leval a < leval b) = decide (a.getD k 0 < b.getD k 0) := by
  have ea := lv_split a k h1
  have eb := lv_split b k h2
  have ta := lv_take ha k (by omega)
  have tb := lv_take hb k (by omega)
  rw [ea, eb, h]
  rcases Nat.lt_or_gt_of_ne hne with q | q
  · rw [decide_eq_true q, decide_eq_true (lex1 ta q)]
  · rw [decide_eq_false (show ¬ a.getD k 0 < b.getD k 0 by omega)]
    exact decide_eq_false (Nat.not_lt.2 (Nat.le_of_lt (lex1 tb q)))
theorem get_tk (l : List Nat) (n j : Nat) (h : j < n) : (l.take n).getD j 0 = l.getD j 0 := by
  rw [List.getD_eq_getElem?_getD, List.getD_eq_getElem?_getD, List.getElem?_take_of_lt h]
theorem below_loop (N : Nat) (l : List Nat) (hl : l.length = 33) (hb : ∀ x ∈ l, x < 256) : ∀ (k f : Nat), k ≤ 32 → k < f → leval ((l.take 32).drop k) = leval (ORD.drop k) →
    ∃ o h, g25L5 realA N (outH [0] none) f 33 32 ((k : Int) - 1) 33 (zi l) 32 (zi ORD) = outH [0] none (bO (decide (leval (l.take 32) < LL))) ((0, ⟨[.ints .i64 33 (zi l)], 3, 2⟩) :: h) ∧ (h = [] ∨ h = [(2000, o)]) := by
  intro k
  induction k with
  | zero =>
    intro f _ hf he
    obtain ⟨f, rfl⟩ : ∃ q, f = q + 1 := ⟨f - 1, by omega⟩
    refine ⟨⟨[], 0, 0⟩, [], ?_, Or.inl rfl⟩
    have e : leval (l.take 32) = LL := by rw [← ORD_val]; exact he
    rw [g25L5, ar_geq, decide_eq_false (by omega), e, decide_eq_false (Nat.lt_irrefl _)]
  | succ k ih =>
    intro f hk hf he
    obtain ⟨f, rfl⟩ : ∃ q, f = q + 1 := ⟨f - 1, by omega⟩
    have e0 : ((k + 1 : Nat) : Int) - 1 = (k : Int) := by omega
    have e1 : realA.ib .sub .i64 (k : Int) 1 = (k : Int) - 1 := ar_sub (by omega)
    rw [g25L5, e0, ar_geq, decide_eq_true (show (0 : Int) ≤ (k : Int) by omega)]
    have hlen : (l.take 32).length = 32 := by rw [List.length_take]; omega
    have hol : ORD.length = 32 := by decide
    by_cases hne : l.getD k 0 = ORD.getD k 0
    · simp only [g25J7, ar_negN, ar_toNN, ar_lt, decide_eq_true (show k < 33 by omega), decide_eq_true (show k < 32 by omega), zi_get, ar_neq, decide_eq_true (show ((l.getD k 0 : Nat) : Int) = ((ORD.getD k 0 : Nat) : Int) by omega), Bool.not_true, e1]
      refine ih f (by omega) (by omega) ?_
      rw [leval_drop _ k (by omega), leval_drop ORD k (by omega), get_tk _ _ _ (by omega), hne, he]
    · simp only [g25J7, ar_negN, ar_toNN, ar_lt, decide_eq_true (show k < 33 by omega), decide_eq_true (show k < 32 by omega), zi_get, ar_neq, decide_eq_false (show ¬ ((l.getD k 0 : Nat) : Int) = ((ORD.getD k 0 : Nat) : Int) by omega), Bool.not_false]
      refine ⟨⟨[.ints .i64 32 (zi ORD)], 3, 2⟩, [(2000, ⟨[.ints .i64 32 (zi ORD)], 3, 2⟩)], ?_, Or.inr rfl⟩
      have hx := lexd (a := l.take 32) (b := ORD) (fun x hx => hb x (List.mem_of_mem_take hx)) ORD_lt k (by omega) (by omega) he (by rw [get_tk _ _ _ (by omega)]; exact hne)
      rw [ORD_val, get_tk _ _ _ (by omega)] at hx
      rw [hx, ar_lss]
      have : decide (((l.getD k 0 : Nat) : Int) < ((ORD.getD k 0 : Nat) : Int)) = decide (l.getD k 0 < ORD.getD k 0) := by
        by_cases q : l.getD k 0 < ORD.getD k 0
        · rw [decide_eq_true q, decide_eq_true (by omega)]
        · rw [decide_eq_false q, decide_eq_false (by omega)]
      rw [this]
theorem LL_256 : LL < 256 ^ 32 := by decide
theorem below_v (l : List Nat) (hl : l.length = 33) (hb : ∀ x ∈ l, x < 256) : g25v realA 33 33 (zi l) = some (bO (decide (leval l < LL)), [(0, ⟨[.ints .i64 33 (zi l)], 3, 2⟩)]) := by
  unfold g25v g25
  have hs := lv_split l 32 (by omega)
  have hd : l.drop 33 = [] := List.drop_of_length_le (by omega)
  rw [show 32 + 1 = 33 from rfl, hd] at hs
  simp only [leval, Nat.mul_zero, Nat.add_zero] at hs
  have hn : Nat.blt 32 33 = true := rfl
  simp only [ord_ok, ord_0, ord_1, ord_2, hn, zi_get, ar_gtr]
  by_cases h0 : 0 < l.getD 32 0
  · rw [decide_eq_true (show (0 : Int) < ((l.getD 32 0 : Nat) : Int) by omega)]
    have : ¬ leval l < LL := by
      have h1 : 256 ^ 32 * 1 ≤ 256 ^ 32 * l.getD 32 0 := Nat.mul_le_mul_left _ h0
      have := LL_256
      omega
    rw [decide_eq_false this]
    rfl
  · rw [decide_eq_false (show ¬ (0 : Int) < ((l.getD 32 0 : Nat) : Int) by omega)]
    have h00 : l.getD 32 0 = 0 := by omega
    rw [h00, Nat.mul_zero, Nat.add_zero] at hs
    simp only [g25J4]
    have hdd : leval ((l.take 32).drop 32) = leval (ORD.drop 32) := by
      rw [List.drop_of_length_le (by rw [List.length_take]; omega), List.drop_of_length_le (by decide)]
    obtain ⟨o, h, e, q⟩ := below_loop 100000 l hl hb 32 100000 (by omega) (by omega) hdd
    rw [show ((32 : Nat) : Int) - 1 = 31 from rfl] at e
    refine e.trans ?_
    rw [hs]
    rcases q with rfl | rfl
    · rfl
    · rfl
theorem below_ok {l : List Nat} (hl : l.length = 33) (hb : ∀ x ∈ l, x < 256) : g25ok realA 33 33 (zi l) = true := (congrArg g25is (below_v l hl hb)).trans rfl
theorem below_0 {l : List Nat} (hl : l.length = 33) (hb : ∀ x ∈ l, x < 256) : g25r0 realA 33 33 (zi l) = decide (leval l < LL) := (congrArg g25g0 (below_v l hl hb)).trans rfl
theorem below_1 {l : List Nat} (hl : l.length = 33) (hb : ∀ x ∈ l, x < 256) : g25r1 realA 33 33 (zi l) = 33 := (congrArg g25g1 (below_v l hl hb)).trans rfl
theorem below_2 {l : List Nat} (hl : l.length = 33) (hb : ∀ x ∈ l, x < 256) : g25r2 realA 33 33 (zi l) = zi l := (congrArg g25g2 (below_v l hl hb)).trans rfl
end Go.Sx
