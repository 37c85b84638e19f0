/- Sx, part Hs: a slice's place written in one form: where none is written it is 0. -/
import Derived.Test.YtloapdnklljaoaaSxHr
namespace Go.Sx
section
variable {P : Program} {T : Tys} {O : Orc}
end
end Go.Sx
