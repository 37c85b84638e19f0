import Derived.Test.YtkomlijabeedpaaDoorSxPl
namespace Go.Sx
theorem ar_eql (a b : Int) : realA.ic .eql a b = decide (a = b) := rfl
theorem ar_neq (a b : Int) : realA.ic .neq a b = !(decide (a = b)) := rfl
theorem ar_neql (a b : Nat) : realA.nc .eql a b = decide (a = b) := rfl
theorem ar_nleq (a b : Nat) : realA.nc .leq a b = decide (a ≤ b) := rfl
theorem ar_ngeq (a b : Nat) : realA.nc .geq a b = decide (b ≤ a) := rfl
theorem ar_toNN (a : Nat) : realA.toN (a : Int) = a := rfl
theorem ar_negN (a : Nat) : realA.neg (a : Int) = false := show decide ((a : Int) < 0) = false from decide_eq_false (by omega)
theorem ar_add {a b : Int} (h : -9223372036854775808 ≤ a + b ∧ a + b < 9223372036854775808) : realA.ib .add .i64 a b = a + b := wrap64 h
theorem ar_sub {a b : Int} (h : -9223372036854775808 ≤ a - b ∧ a - b < 9223372036854775808) : realA.ib .sub .i64 a b = a - b := wrap64 h
theorem ar_rem {a b : Int} (h : 0 ≤ a) : realA.ib .rem .i64 a b = a % b := Int.tmod_eq_emod_of_nonneg h
end Go.Sx
