import Derived.Test.YtcgjapkajaflpaaSxR04b
namespace Go.Sx
theorem exm9 : g9v realA = some (.v (.cell (.bool true))) := by kernel_rfl
theorem ok9 : g9ok realA = true := by
  unfold g9ok
  rw [exm9]
  rfl
theorem r9 : g9r0 realA = true := by
  unfold g9r0
  rw [exm9]
  rfl
end Go.Sx
