import Derived.Test.YtkomlijabeedpaaDoorSxTc
import Derived.Laws.Externs
namespace Go.Sx

variable {P : Program}

end Go.Sx
