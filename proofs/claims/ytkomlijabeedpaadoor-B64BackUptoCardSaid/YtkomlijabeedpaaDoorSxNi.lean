import Derived.Test.YtkomlijabeedpaaDoorSxHs
namespace Go.Sx
section
variable {R : Type}
end
section
variable {P : Program}
end
end Go.Sx
