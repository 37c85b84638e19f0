import Derived.Test.YtcgjapkajaflpaaSxP04c
namespace Go.Sx
theorem exm9 : g9v = some (.v (.cell (.bool true))) := by kernel_rfl
theorem ok9 : g9ok = true := by
  unfold g9ok
  rw [exm9]
  rfl
theorem r9 : g9r0 = true := by
  unfold g9r0
  rw [exm9]
  rfl
theorem ok16 : g16ok = true := by
  have ex : g16v = some (.v (.cell (.str [237, 211, 245, 92, 26, 99, 18, 88, 214, 156, 247, 162, 222, 249, 222, 20, 0, 0, 0, 0, 0, 0, 0, 0, 0, 0, 0, 0, 0, 0, 0, 16]))) := by kernel_rfl
  unfold g16ok
  rw [ex]
  rfl
theorem r16 : g16r0 = [237, 211, 245, 92, 26, 99, 18, 88, 214, 156, 247, 162, 222, 249, 222, 20, 0, 0, 0, 0, 0, 0, 0, 0, 0, 0, 0, 0, 0, 0, 0, 16] := by
  have ex : g16v = some (.v (.cell (.str [237, 211, 245, 92, 26, 99, 18, 88, 214, 156, 247, 162, 222, 249, 222, 20, 0, 0, 0, 0, 0, 0, 0, 0, 0, 0, 0, 0, 0, 0, 0, 16]))) := by kernel_rfl
  unfold g16r0
  rw [ex]
  rfl
end Go.Sx
