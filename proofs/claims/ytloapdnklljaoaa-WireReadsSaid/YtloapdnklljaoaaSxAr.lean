import Derived.Test.YtloapdnklljaoaaSxPl
namespace Go.Sx
theorem ar_lt (a b : Nat) : realA.lt a b = decide (a < b) := rfl
theorem ar_le (a b : Nat) : realA.le a b = decide (a ≤ b) := rfl
theorem ar_eql (a b : Int) : realA.ic .eql a b = decide (a = b) := rfl
theorem ar_neq (a b : Int) : realA.ic .neq a b = !(decide (a = b)) := rfl
theorem ar_lss (a b : Int) : realA.ic .lss a b = decide (a < b) := rfl
theorem ar_toNN (a : Nat) : realA.toN (a : Int) = a := rfl
theorem ar_negN (a : Nat) : realA.neg (a : Int) = false := show decide ((a : Int) < 0) = false from decide_eq_false (by omega)
theorem ar_ofN (a : Nat) : realA.ofN a = (a : Int) := rfl
theorem ar_add {a b : Int} (h : -9223372036854775808 ≤ a + b ∧ a + b < 9223372036854775808) : realA.ib .add .i64 a b = a + b := wrap64 h
theorem ar_mul {a b : Int} (h : -9223372036854775808 ≤ a * b ∧ a * b < 9223372036854775808) : realA.ib .mul .i64 a b = a * b := wrap64 h
theorem ar_shl {a : Int} {c : Nat} (h : c ≤ 64) (h2 : -9223372036854775808 ≤ a * 2 ^ c ∧ a * 2 ^ c < 9223372036854775808) : realA.ish .shl .i64 a c = a * 2 ^ c := by
  show IntKind.wrap .i64 (a * 2 ^ (min c 64)) = _
  rw [Nat.min_eq_left h]
  exact wrap64 h2
theorem ar_sceq (a b : List Nat) : realA.sc .eql a b = decide (a = b) := by
  first | rfl | simp [realA]
end Go.Sx
