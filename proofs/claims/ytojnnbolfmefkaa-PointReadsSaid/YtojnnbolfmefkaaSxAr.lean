import Derived.Test.YtojnnbolfmefkaaSxPl
namespace Go.Sx
theorem ar_sceq (a b : List Nat) : realA.sc .eql a b = decide (a = b) := by
  first | rfl | simp [realA]
end Go.Sx
