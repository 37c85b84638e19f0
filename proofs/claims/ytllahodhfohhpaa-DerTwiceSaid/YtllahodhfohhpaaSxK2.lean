import Derived.Test.YtllahodhfohhpaaSxEx
namespace Go.Sx
variable {R : Type}

end Go.Sx
