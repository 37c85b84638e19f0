import Derived.Test.YtkomlijabeedpaaDoorSxHr
namespace Go.Sx
end Go.Sx
