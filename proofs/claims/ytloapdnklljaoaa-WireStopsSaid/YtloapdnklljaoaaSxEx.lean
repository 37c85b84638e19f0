/- Sx, part Ex: functions without a body that the model stands in for: math/bits.Add64, math/bits.Sub64. -/
import Derived.Test.YtloapdnklljaoaaSxTc
import Derived.Laws.Externs
namespace Go.Sx

variable {P : Program}

end Go.Sx
