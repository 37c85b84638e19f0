import Derived.Test.YtojnnbolfmefkaaSxEx
namespace Go.Sx
variable {R : Type}

end Go.Sx
