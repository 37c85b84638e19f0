import Derived.Test.YtkomlijabeedpaaDoorSxEx
namespace Go.Sx
variable {R : Type}

end Go.Sx
