import Derived.Test.YtloapdnklljaoaaSxN13
namespace Go.Sx
end Go.Sx
