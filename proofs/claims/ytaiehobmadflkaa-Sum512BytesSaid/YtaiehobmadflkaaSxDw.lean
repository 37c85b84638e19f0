/- Sx, part Dw: numbers as digits of 64 bits, the least first. -/
import Derived.Test.YtaiehobmadflkaaSxPl
namespace Go.Sx
def dw : List Nat → Nat
  | [] => 0
  | x :: r => x + 18446744073709551616 * dw r
def EE : Nat := 18446744073709551616
theorem dw_lt {l : List Nat} (h : ∀ x ∈ l, x < 18446744073709551616) : dw l < EE ^ l.length := by
  induction l with
  | nil => simp [dw]
  | cons x r ih =>
    have h1 := ih fun y hy => h y (List.mem_cons_of_mem _ hy)
    have h2 := h x (List.mem_cons_self ..)
    simp only [dw, List.length_cons, Nat.pow_succ]
    unfold EE at *
    omega
theorem dw_append (a b : List Nat) : dw (a ++ b) = dw a + EE ^ a.length * dw b := by
  induction a with
  | nil => simp [dw]
  | cons x r ih =>
    simp only [List.cons_append, dw, ih, List.length_cons, Nat.pow_succ, EE]
    grind
theorem dw_split (l : List Nat) (k : Nat) (h : k ≤ l.length) : dw l = dw (l.take k) + EE ^ k * dw (l.drop k) := by
  have e := dw_append (l.take k) (l.drop k)
  rw [List.take_append_drop, List.length_take, Nat.min_eq_left h] at e
  exact e
theorem dw_take_succ (l : List Nat) (k : Nat) (h : k < l.length) : dw (l.take (k + 1)) = dw (l.take k) + EE ^ k * l.getD k 0 := by
  have : l.take (k + 1) = l.take k ++ [l.getD k 0] := by
    rw [List.take_add_one, List.getD_eq_getElem?_getD, List.getElem?_eq_getElem h]
    rfl
  rw [this, dw_append, List.length_take, Nat.min_eq_left (by omega)]
  simp only [dw, Nat.mul_zero, Nat.add_zero]
theorem dw_drop (l : List Nat) (k : Nat) (h : k < l.length) : dw (l.drop k) = l.getD k 0 + 18446744073709551616 * dw (l.drop (k + 1)) := by
  rw [List.drop_eq_getElem_cons h, dw, List.getD_eq_getElem?_getD, List.getElem?_eq_getElem h]
  rfl
theorem dw_set : ∀ (l : List Nat) (j y : Nat), j < l.length → dw (l.set j y) + EE ^ j * l.getD j 0 = dw l + EE ^ j * y := by
  intro l
  induction l with
  | nil => intro j y h; simp at h
  | cons x r ih =>
    intro j y h
    cases j with
    | zero => simp [dw]; omega
    | succ j =>
      have := ih j y (by simpa using h)
      simp only [List.set_cons_succ, dw, List.getD_cons_succ, Nat.pow_succ, EE] at this ⊢
      grind
theorem getD_ltE {l : List Nat} (h : ∀ x ∈ l, x < 18446744073709551616) (j : Nat) : l.getD j 0 < 18446744073709551616 := by
  by_cases hj : j < l.length
  · rw [List.getD_eq_getElem?_getD, List.getElem?_eq_getElem hj]
    exact h _ (List.getElem_mem _)
  · rw [List.getD_eq_getElem?_getD, List.getElem?_eq_none (by omega)]
    exact Nat.zero_lt_succ _
theorem set_ltE {l : List Nat} (h : ∀ x ∈ l, x < 18446744073709551616) {y : Nat} (hy : y < 18446744073709551616) (j : Nat) : ∀ x ∈ l.set j y, x < 18446744073709551616 := fun x hx => (List.mem_or_eq_of_mem_set hx).elim (h x) (fun e => e ▸ hy)
end Go.Sx
