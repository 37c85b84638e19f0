import Derived.Test.YtkomlijabeedpaaDoorSxLaw
import Derived.Laws.BitsLemmas
namespace Go.Sx
theorem wrap64 {x : Int} (h : -9223372036854775808 ≤ x ∧ x < 9223372036854775808) : IntKind.wrap .i64 x = x := by
  rw [IntKind.wrap_i64]; omega
end Go.Sx
