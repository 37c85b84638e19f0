import Derived.Test.YtllahodhfohhpaaSxHr
namespace Go.Sx
end Go.Sx
namespace Go.Sx
section
variable {R : Type}
end
section
variable {P : Program}
end
end Go.Sx
