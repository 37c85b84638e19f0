import Derived.Test.YtloapdnklljaoaaSxHr
namespace Go.Sx
section
variable {P : Program} {T : Tys} {O : Orc}
end
end Go.Sx
