import Derived.Test.YtllahodhfohhpaaSxHr
namespace Go.Sx
end Go.Sx
