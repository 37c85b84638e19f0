import Derived.Test.YtnnepclpggbjgaaSxE03
namespace Go.Sx
/-- four words that stand for u -/
def Rep (a : List Nat) (u : Nat) : Prop := W4 a ∧ num a % PP = u ∧ u < PP
theorem rf {x : Nat} (h : x < PP) : Rep (fe x) x := ⟨fe_W4 x, by rw [num_fe (Nat.lt_trans h (by decide)), Nat.mod_eq_of_lt h], h⟩
theorem rW {a : List Nat} (h : W4 a) : Rep a (num a % PP) := ⟨h, rfl, Nat.mod_lt _ PP_pos⟩
theorem mulR {a b : List Nat} {u v : Nat} (ha : Rep a u) (hb : Rep b v) : g16ok realA a b = true ∧ g16r0 realA a b = fe (u * v % PP) := by
  obtain ⟨h1, h2⟩ := mulOk ha.1 hb.1
  refine ⟨h1, ?_⟩
  rw [h2, ← ha.2.1, ← hb.2.1, ← Nat.mul_mod]
  rfl
end Go.Sx
