import Derived.Test.YtloapdnklljaoaaSxEx
namespace Go.Sx
variable {R : Type}

end Go.Sx
