/- Sx, part Dv: numbers as digits of 32 bits, the least first. -/
import Derived.Test.YtnnepclpggbjgaaSxPl
namespace Go.Sx
def dv : List Nat → Nat
  | [] => 0
  | x :: r => x + 4294967296 * dv r
def DD : Nat := 4294967296
theorem dv_lt {l : List Nat} (h : ∀ x ∈ l, x < 4294967296) : dv l < DD ^ l.length := by
  induction l with
  | nil => simp [dv]
  | cons x r ih =>
    have h1 := ih fun y hy => h y (List.mem_cons_of_mem _ hy)
    have h2 := h x (List.mem_cons_self ..)
    simp only [dv, List.length_cons, Nat.pow_succ]
    unfold DD at *
    omega
theorem dv_append (a b : List Nat) : dv (a ++ b) = dv a + DD ^ a.length * dv b := by
  induction a with
  | nil => simp [dv]
  | cons x r ih =>
    simp only [List.cons_append, dv, ih, List.length_cons, Nat.pow_succ, DD]
    grind
theorem dv_split (l : List Nat) (k : Nat) (h : k ≤ l.length) : dv l = dv (l.take k) + DD ^ k * dv (l.drop k) := by
  have e := dv_append (l.take k) (l.drop k)
  rw [List.take_append_drop, List.length_take, Nat.min_eq_left h] at e
  exact e
theorem dv_take_succ (l : List Nat) (k : Nat) (h : k < l.length) : dv (l.take (k + 1)) = dv (l.take k) + DD ^ k * l.getD k 0 := by
  have : l.take (k + 1) = l.take k ++ [l.getD k 0] := by
    rw [List.take_add_one, List.getD_eq_getElem?_getD, List.getElem?_eq_getElem h]
    rfl
  rw [this, dv_append, List.length_take, Nat.min_eq_left (by omega)]
  simp only [dv, Nat.mul_zero, Nat.add_zero]
theorem dv_drop (l : List Nat) (k : Nat) (h : k < l.length) : dv (l.drop k) = l.getD k 0 + 4294967296 * dv (l.drop (k + 1)) := by
  rw [List.drop_eq_getElem_cons h, dv, List.getD_eq_getElem?_getD, List.getElem?_eq_getElem h]
  rfl
theorem dv_set : ∀ (l : List Nat) (j y : Nat), j < l.length → dv (l.set j y) + DD ^ j * l.getD j 0 = dv l + DD ^ j * y := by
  intro l
  induction l with
  | nil => intro j y h; simp at h
  | cons x r ih =>
    intro j y h
    cases j with
    | zero => simp [dv]; omega
    | succ j =>
      have := ih j y (by simpa using h)
      simp only [List.set_cons_succ, dv, List.getD_cons_succ, Nat.pow_succ, DD] at this ⊢
      grind
theorem take_set_same (l : List Nat) (i y : Nat) : (l.set i y).take i = l.take i := List.take_set_of_le (Nat.le_refl i)
theorem dv_take_set (l : List Nat) (i y : Nat) (h : i < l.length) : dv ((l.set i y).take (i + 1)) = dv (l.take i) + DD ^ i * y := by
  rw [dv_take_succ _ _ (by simpa using h), take_set_same, List.getD_eq_getElem?_getD, List.getElem?_set_self h]
  rfl
theorem getD_ltD {l : List Nat} (h : ∀ x ∈ l, x < 4294967296) (j : Nat) : l.getD j 0 < 4294967296 := by
  by_cases hj : j < l.length
  · rw [List.getD_eq_getElem?_getD, List.getElem?_eq_getElem hj]
    exact h _ (List.getElem_mem _)
  · rw [List.getD_eq_getElem?_getD, List.getElem?_eq_none (by omega)]
    exact Nat.zero_lt_succ _
theorem set_ltD {l : List Nat} (h : ∀ x ∈ l, x < 4294967296) {y : Nat} (hy : y < 4294967296) (j : Nat) : ∀ x ∈ l.set j y, x < 4294967296 := fun x hx => (List.mem_or_eq_of_mem_set hx).elim (h x) (fun e => e ▸ hy)
def N8 (l : List Nat) : Prop := l.length = 8 ∧ ∀ x ∈ l, x < 4294967296
theorem N8_lt {l : List Nat} (h : N8 l) : dv l < 115792089237316195423570985008687907853269984665640564039457584007913129639936 := by
  have := dv_lt h.2
  rw [h.1] at this
  exact this
theorem N8_zero : N8 [0, 0, 0, 0, 0, 0, 0, 0] := ⟨rfl, by decide⟩
end Go.Sx
