import Derived.Test.YtllahodhfohhpaaSxP14b
namespace Go.Sx
set_option maxRecDepth 100000
theorem ex14ok : g7ok realA = true := by kernel_rfl
theorem ex14r : g7r0 realA = true := by kernel_rfl
end Go.Sx
