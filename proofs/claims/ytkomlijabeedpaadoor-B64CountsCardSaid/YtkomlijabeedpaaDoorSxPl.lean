import Derived.Test.YtkomlijabeedpaaDoorSxLaw
import Derived.Laws.BitsLemmas
namespace Go.Sx
theorem wrap64 {x : Int} (h : -9223372036854775808 ≤ x ∧ x < 9223372036854775808) : IntKind.wrap .i64 x = x := by
  rw [IntKind.wrap_i64]; omega
theorem wf64 {i : Int} (hi : (Lit.int .i64 i).wf = true) : -9223372036854775808 ≤ i ∧ i < 9223372036854775808 := by
  have : (-9223372036854775808 ≤ i ∧ i ≤ 9223372036854775807) := by simpa [Lit.wf, IntKind.min, IntKind.max, IntKind.signed, IntKind.bits] using hi
  omega
end Go.Sx
