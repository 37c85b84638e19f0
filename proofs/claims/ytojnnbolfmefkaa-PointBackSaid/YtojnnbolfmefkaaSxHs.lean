import Derived.Test.YtojnnbolfmefkaaSxHr
namespace Go.Sx
section
variable {P : Program} {T : Tys} {O : Orc}
end
end Go.Sx
