/-
  No cell of these rows narrows 'for every input' (looked for: loops, veiled, ifaces, maps, wideKeys, modest, calm, conditions, laid).
  DERIVED. THE GIVEN ROWS OF THIS SEAT. 4 by the template 'for every input the law returns true; each argument reads behind the call as it read before'; 0 by the template 'total and deterministic' (their statements: YtllahodhfohhpaaTotals.lean).
  GIVEN WITH THE SEED: the statements are not yours to turn. If you find one false, say at which input.
  Laid BY PROGRAM, IN A SANDBOX (cutbox-rows.mjs): the forced cells as the released guide's own fill.sh prints them over the translation b65b1b2838641dea… (all of the seat's roots in one cut). By AI agents, Wed Nov 11 2026. No macro, syntax, notation, axiom, sorry.
-/
import Derived.Test.YtllahodhfohhpaaChecked
import GoSem.Claim
import GoSem.ClaimJoined
import GoSem.ClaimMapViews
import Derived.JoinedTies
import Derived.KernelRfl
namespace Go.Proofs.Ytllahodhfohhpaa
/- THE CELL 'sum', in the pinned program and in every row, IS THE sha256 OF THE DUMP (.gsa) THAT YtllahodhfohhpaaProg.lean LOADS. Nothing in Lean hashes anything: it is a label: what it is worth is what the hold of that sum in a sandbox is worth. -/
noncomputable def Try.pinned : Pinned := { name := "ytllahodhfohhpaa", sum := "b65b1b2838641dea313a0280fe89aeee048803f2c23816acde7397007aa1ab3f", checked := Try.checked }
namespace Rows
def none {H : Type} : Left H := { results := [], args := [] }

/-- 'engrosserlaw14.DerItems': WHATEVER THE INPUT: true; the input reads as it did. -/
def derItemsSpec : ChangeSpec := { name := "derItems", fn := fun _ => fun
  | [d1, d2, d3] => { results := [.lit (.bool true)], args := [d1, d2, d3] }
  | _ => none }
def derItemsRow : OpenClaim := { program := "ytllahodhfohhpaa", sum := "b65b1b2838641dea313a0280fe89aeee048803f2c23816acde7397007aa1ab3f", func := "engrosser/engrosserlaw14.DerItems", spec := "derItems", unfollowed := true, recurses := true, apart := false }
def DerItemsSaid : Prop := derItemsRow.holds Try.pinned (OpenSpec.ofChange derItemsSpec)

/-- ITS FALSE NEIGHBOUR: 'it returns false'. Refute it at one input. -/
def derItemsWrong : ChangeSpec := { name := "derItems", fn := fun _ => fun
  | [d1, d2, d3] => { results := [.lit (.bool false)], args := [d1, d2, d3] }
  | _ => none }
def DerItemsWrongFalsely : Prop := derItemsRow.holds Try.pinned (OpenSpec.ofChange derItemsWrong)

/-- 'engrosserlaw14.DerBack': WHATEVER THE INPUT: true; the input reads as it did. -/
def derBackSpec : ChangeSpec := { name := "derBack", fn := fun _ => fun
  | [d1, d2, d3] => { results := [.lit (.bool true)], args := [d1, d2, d3] }
  | _ => none }
def derBackRow : OpenClaim := { program := "ytllahodhfohhpaa", sum := "b65b1b2838641dea313a0280fe89aeee048803f2c23816acde7397007aa1ab3f", func := "engrosser/engrosserlaw14.DerBack", spec := "derBack", unfollowed := true, recurses := true, apart := false }
def DerBackSaid : Prop := derBackRow.holds Try.pinned (OpenSpec.ofChange derBackSpec)

/-- ITS FALSE NEIGHBOUR: 'it returns false'. Refute it at one input. -/
def derBackWrong : ChangeSpec := { name := "derBack", fn := fun _ => fun
  | [d1, d2, d3] => { results := [.lit (.bool false)], args := [d1, d2, d3] }
  | _ => none }
def DerBackWrongFalsely : Prop := derBackRow.holds Try.pinned (OpenSpec.ofChange derBackWrong)

/-- 'engrosserlaw14.DerTwice': WHATEVER THE INPUT: true; the input reads as it did. -/
def derTwiceSpec : ChangeSpec := { name := "derTwice", fn := fun _ => fun
  | [d1, d2, d3] => { results := [.lit (.bool true)], args := [d1, d2, d3] }
  | _ => none }
def derTwiceRow : OpenClaim := { program := "ytllahodhfohhpaa", sum := "b65b1b2838641dea313a0280fe89aeee048803f2c23816acde7397007aa1ab3f", func := "engrosser/engrosserlaw14.DerTwice", spec := "derTwice", unfollowed := true, recurses := true, apart := false }
def DerTwiceSaid : Prop := derTwiceRow.holds Try.pinned (OpenSpec.ofChange derTwiceSpec)

/-- ITS FALSE NEIGHBOUR: 'it returns false'. Refute it at one input. -/
def derTwiceWrong : ChangeSpec := { name := "derTwice", fn := fun _ => fun
  | [d1, d2, d3] => { results := [.lit (.bool false)], args := [d1, d2, d3] }
  | _ => none }
def DerTwiceWrongFalsely : Prop := derTwiceRow.holds Try.pinned (OpenSpec.ofChange derTwiceWrong)

/-- 'engrosserlaw14.DerLengths': WHATEVER THE INPUT: true; the input reads as it did. -/
def derLengthsSpec : ChangeSpec := { name := "derLengths", fn := fun _ => fun
  | [d1, d2] => { results := [.lit (.bool true)], args := [d1, d2] }
  | _ => none }
def derLengthsRow : OpenClaim := { program := "ytllahodhfohhpaa", sum := "b65b1b2838641dea313a0280fe89aeee048803f2c23816acde7397007aa1ab3f", func := "engrosser/engrosserlaw14.DerLengths", spec := "derLengths", unfollowed := true, recurses := true, apart := false }
def DerLengthsSaid : Prop := derLengthsRow.holds Try.pinned (OpenSpec.ofChange derLengthsSpec)

/-- ITS FALSE NEIGHBOUR: 'it returns false'. Refute it at one input. -/
def derLengthsWrong : ChangeSpec := { name := "derLengths", fn := fun _ => fun
  | [d1, d2] => { results := [.lit (.bool false)], args := [d1, d2] }
  | _ => none }
def DerLengthsWrongFalsely : Prop := derLengthsRow.holds Try.pinned (OpenSpec.ofChange derLengthsWrong)

/- THE SECOND FORM. 'bulk': how many values and letters a reading holds, each counted each time it is reached (what is shared counts as often as it is met; a slice's spare places count too). A statement '..UptoSaid' is the law's where the arguments, and the package variables that the reading takes, are together of bulk at most 1048576: NARROWER than '..Said'. Prove '..Said' where nothing that the law and all that it calls make is longer than what came in: it says more and counts as full. Else prove '..UptoSaid'. A law counts once. -/
mutual
def uptoBulk {H : Type} : DataW H → Nat
  | .lit (.string bytes) => bytes.length + 1
  | .lit _ => 1
  | .nil => 1
  | .ptr d => uptoBulk d + 1
  | .slice elems spare => uptoBulkAll elems + uptoBulkAll spare + 1
  | .agg parts => uptoBulkAll parts + 1
  | .iface _ d => uptoBulk d + 1
  | .map entries => uptoBulkEntries entries + 1
  | .held _ => 1
def uptoBulkAll {H : Type} : List (DataW H) → Nat
  | [] => 0
  | d :: r => uptoBulk d + uptoBulkAll r
def uptoBulkEntries {H : Type} : List (Lit × DataW H) → Nat
  | [] => 0
  | x :: r => uptoBulkEntry x + uptoBulkEntries r
def uptoBulkEntry {H : Type} : Lit × DataW H → Nat
  | (.string bytes, d) => bytes.length + uptoBulk d + 1
  | (_, d) => uptoBulk d + 1
 end
def uptoSmall : (H : Type) → List (DataW H) → Bool := fun _ ds => decide (uptoBulkAll ds ≤ 1048576)
def OpenSpec.upto (s : _root_.Go.ChangeSpec) : _root_.Go.OpenSpec := { _root_.Go.OpenSpec.ofChange s with cond := some uptoSmall }

/-- 'engrosserlaw14.DerItems', WHERE WHAT IT READS IS OF BULK AT MOST 1048576: true; the input reads as it did. -/
def derItemsUptoRow : OpenClaim := { program := "ytllahodhfohhpaa", sum := "b65b1b2838641dea313a0280fe89aeee048803f2c23816acde7397007aa1ab3f", func := "engrosser/engrosserlaw14.DerItems", spec := "derItems", unfollowed := true, recurses := true, apart := false, narrowed := true }
def DerItemsUptoSaid : Prop := derItemsUptoRow.holds Try.pinned (OpenSpec.upto derItemsSpec)

/-- 'engrosserlaw14.DerBack', WHERE WHAT IT READS IS OF BULK AT MOST 1048576: true; the input reads as it did. -/
def derBackUptoRow : OpenClaim := { program := "ytllahodhfohhpaa", sum := "b65b1b2838641dea313a0280fe89aeee048803f2c23816acde7397007aa1ab3f", func := "engrosser/engrosserlaw14.DerBack", spec := "derBack", unfollowed := true, recurses := true, apart := false, narrowed := true }
def DerBackUptoSaid : Prop := derBackUptoRow.holds Try.pinned (OpenSpec.upto derBackSpec)

/-- 'engrosserlaw14.DerTwice', WHERE WHAT IT READS IS OF BULK AT MOST 1048576: true; the input reads as it did. -/
def derTwiceUptoRow : OpenClaim := { program := "ytllahodhfohhpaa", sum := "b65b1b2838641dea313a0280fe89aeee048803f2c23816acde7397007aa1ab3f", func := "engrosser/engrosserlaw14.DerTwice", spec := "derTwice", unfollowed := true, recurses := true, apart := false, narrowed := true }
def DerTwiceUptoSaid : Prop := derTwiceUptoRow.holds Try.pinned (OpenSpec.upto derTwiceSpec)

/-- 'engrosserlaw14.DerLengths', WHERE WHAT IT READS IS OF BULK AT MOST 1048576: true; the input reads as it did. -/
def derLengthsUptoRow : OpenClaim := { program := "ytllahodhfohhpaa", sum := "b65b1b2838641dea313a0280fe89aeee048803f2c23816acde7397007aa1ab3f", func := "engrosser/engrosserlaw14.DerLengths", spec := "derLengths", unfollowed := true, recurses := true, apart := false, narrowed := true }
def DerLengthsUptoSaid : Prop := derLengthsUptoRow.holds Try.pinned (OpenSpec.upto derLengthsSpec)

end Rows
end Go.Proofs.Ytllahodhfohhpaa
