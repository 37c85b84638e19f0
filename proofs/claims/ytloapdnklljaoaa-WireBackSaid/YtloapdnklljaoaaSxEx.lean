import Derived.Test.YtloapdnklljaoaaSxTc
import Derived.Laws.Externs
namespace Go.Sx

variable {P : Program}

end Go.Sx
