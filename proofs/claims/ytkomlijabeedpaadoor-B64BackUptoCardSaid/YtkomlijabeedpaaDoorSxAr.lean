import Derived.Test.YtkomlijabeedpaaDoorSxPl
namespace Go.Sx
theorem ar_lt (a b : Nat) : realA.lt a b = decide (a < b) := rfl
theorem ar_eql (a b : Int) : realA.ic .eql a b = decide (a = b) := rfl
theorem ar_neq (a b : Int) : realA.ic .neq a b = !(decide (a = b)) := rfl
theorem ar_lss (a b : Int) : realA.ic .lss a b = decide (a < b) := rfl
theorem ar_leq (a b : Int) : realA.ic .leq a b = decide (a ≤ b) := rfl
theorem ar_gtr (a b : Int) : realA.ic .gtr a b = decide (b < a) := rfl
theorem ar_neql (a b : Nat) : realA.nc .eql a b = decide (a = b) := rfl
theorem ar_nneq (a b : Nat) : realA.nc .neq a b = !(decide (a = b)) := rfl
theorem ar_toNN (a : Nat) : realA.toN (a : Int) = a := rfl
theorem ar_negN (a : Nat) : realA.neg (a : Int) = false := show decide ((a : Int) < 0) = false from decide_eq_false (by omega)
theorem ar_ofN (a : Nat) : realA.ofN a = (a : Int) := rfl
theorem ar_add {a b : Int} (h : -9223372036854775808 ≤ a + b ∧ a + b < 9223372036854775808) : realA.ib .add .i64 a b = a + b := wrap64 h
theorem ar_sub {a b : Int} (h : -9223372036854775808 ≤ a - b ∧ a - b < 9223372036854775808) : realA.ib .sub .i64 a b = a - b := wrap64 h
theorem ar_mul {a b : Int} (h : -9223372036854775808 ≤ a * b ∧ a * b < 9223372036854775808) : realA.ib .mul .i64 a b = a * b := wrap64 h
theorem ar_rem {a b : Int} (h : 0 ≤ a) : realA.ib .rem .i64 a b = a % b := Int.tmod_eq_emod_of_nonneg h
theorem ar_quo {a b : Int} (h : 0 ≤ a) (hb : 0 ≤ b) (hlt : a < 9223372036854775808) : realA.ib .quo .i64 a b = a / b := by
  show IntKind.wrap .i64 (a.tdiv b) = _
  rw [Int.tdiv_eq_ediv_of_nonneg h]
  have h1 : a / b ≤ a := Int.ediv_le_self b h
  have h2 : 0 ≤ a / b := Int.ediv_nonneg h hb
  exact wrap64 (by omega)
theorem ar_sceq (a b : List Nat) : realA.sc .eql a b = decide (a = b) := by
  first | rfl | simp [realA]
theorem ar_scne (a b : List Nat) : realA.sc .neq a b = !(decide (a = b)) := by
  first | rfl | simp [realA]
theorem ar_i2nN (n : Nat) : realA.i2n .u8 (n : Int) = n % 256 := by
  first | rfl | (show Int.toNat _ = _; omega)
end Go.Sx
