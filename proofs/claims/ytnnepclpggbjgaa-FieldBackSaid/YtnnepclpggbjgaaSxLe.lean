/- Sx, part Le: numbers as their bytes, the least first. -/
import Derived.Test.YtnnepclpggbjgaaSxPl
namespace Go.Sx
/-- a number's value, the least byte first -/
def leval : List Nat → Nat
  | [] => 0
  | x :: r => x + 256 * leval r
def le32 (v : Nat) : List Nat := (List.range 32).map fun i => v / 256 ^ i % 256
theorem le32_length (v : Nat) : (le32 v).length = 32 := by simp [le32]
theorem le32_lt (v : Nat) : ∀ x ∈ le32 v, x < 256 := by
  intro x hx
  simp only [le32, List.mem_map] at hx
  obtain ⟨i, _, rfl⟩ := hx
  omega
theorem leval_lt {l : List Nat} (h : ∀ x ∈ l, x < 256) : leval l < 256 ^ l.length := by
  induction l with
  | nil => simp [leval]
  | cons x r ih =>
    have h1 := ih fun y hy => h y (List.mem_cons_of_mem _ hy)
    have h2 := h x (List.mem_cons_self ..)
    simp only [leval, List.length_cons, Nat.pow_succ]
    omega
theorem leval_append (a b : List Nat) : leval (a ++ b) = leval a + 256 ^ a.length * leval b := by
  induction a with
  | nil => simp [leval]
  | cons x r ih =>
    simp only [List.cons_append, leval, ih, List.length_cons, Nat.pow_succ]
    grind
theorem leval_range (v k : Nat) : leval ((List.range k).map fun i => v / 256 ^ i % 256) = v % 256 ^ k := by
  induction k with
  | zero => simp [leval, Nat.mod_one]
  | succ k ih =>
    rw [List.range_succ, List.map_append, leval_append, ih]
    simp only [List.map_cons, List.map_nil, leval, List.length_map, List.length_range, Nat.mul_zero, Nat.add_zero]
    have h1 : v % 256 ^ (k + 1) = v % 256 ^ k + 256 ^ k * (v / 256 ^ k % 256) := by
      rw [Nat.pow_succ, Nat.mod_mul]
    omega
theorem leval_le32 (v : Nat) (h : v < 256 ^ 32) : leval (le32 v) = v := by
  unfold le32
  rw [leval_range, Nat.mod_eq_of_lt h]
theorem le32_leval {l : List Nat} (h : ∀ x ∈ l, x < 256) (hl : l.length = 32) : le32 (leval l) = l := by
  have key : ∀ (k : Nat) (l : List Nat), (∀ x ∈ l, x < 256) → l.length = k → (List.range k).map (fun i => leval l / 256 ^ i % 256) = l := by
    intro k
    induction k with
    | zero => intro l _ hl; rw [List.length_eq_zero_iff.1 hl]; rfl
    | succ k ih =>
      intro l h hl
      cases l with
      | nil => simp at hl
      | cons x r =>
        have h2 := h x (List.mem_cons_self ..)
        rw [List.range_succ_eq_map, List.map_cons, List.map_map]
        have e0 : leval (x :: r) / 256 ^ 0 % 256 = x := by simp only [leval, Nat.pow_zero, Nat.div_one]; omega
        rw [e0]
        congr 1
        refine Eq.trans ?_ (ih r (fun y hy => h y (List.mem_cons_of_mem _ hy)) (by simpa using hl))
        apply List.map_congr_left
        intro i _
        show leval (x :: r) / 256 ^ (i + 1) % 256 = _
        have : leval (x :: r) / 256 ^ (i + 1) = leval r / 256 ^ i := by
          rw [Nat.pow_succ, Nat.mul_comm, ← Nat.div_div_eq_div_mul]
          congr 1
          simp only [leval]
          omega
        rw [this]
  exact key 32 l h hl
theorem take_set (l : List Nat) (i y : Nat) (h : i < l.length) : (l.set i y).take (i + 1) = l.take i ++ [y] := by
  rw [List.take_add_one, List.getElem?_set_self h]
  congr 1
  rw [List.take_set_of_le (Nat.le_refl i)]
theorem leval_drop (l : List Nat) (k : Nat) (h : k < l.length) : leval (l.drop k) = l.getD k 0 + 256 * leval (l.drop (k + 1)) := by
  rw [List.drop_eq_getElem_cons h, leval, List.getD_eq_getElem?_getD, List.getElem?_eq_getElem h]
  rfl
end Go.Sx
