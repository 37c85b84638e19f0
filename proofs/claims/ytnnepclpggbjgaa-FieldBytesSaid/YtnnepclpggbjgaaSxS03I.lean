import Derived.Test.YtnnepclpggbjgaaSxS03b
/- printed by sxgen -/
namespace Go.Sx
open Go.Proofs
set_option linter.unusedVariables false
section
variable {R : Type} (A : Ar) (n : Nat) (K : Ex → St → Option R) (s : St)
end
end Go.Sx
