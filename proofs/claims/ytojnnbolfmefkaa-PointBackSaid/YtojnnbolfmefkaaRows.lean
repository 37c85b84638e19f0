/-
  No cell of these rows narrows 'for every input' (looked for: loops, veiled, ifaces, maps, wideKeys, modest, calm, conditions, laid).
  DERIVED. THE GIVEN ROWS OF THIS SEAT. 7 by the template 'for every input the law returns true; each argument reads behind the call as it read before'; 0 by the template 'total and deterministic' (their statements: YtojnnbolfmefkaaTotals.lean).
  GIVEN WITH THE SEED: the statements are not yours to turn. If you find one false, say at which input.
  Laid BY PROGRAM, IN A SANDBOX (cutbox-rows.mjs): the forced cells as the released guide's own fill.sh prints them over the translation fa894c3d60da5236… (all of the seat's roots in one cut). By AI agents, Wed Nov 11 2026. No macro, syntax, notation, axiom, sorry.
-/
import Derived.Test.YtojnnbolfmefkaaChecked
import GoSem.Claim
import GoSem.ClaimJoined
import GoSem.ClaimMapViews
import Derived.JoinedTies
import Derived.KernelRfl
namespace Go.Proofs.Ytojnnbolfmefkaa
/- THE CELL 'sum', in the pinned program and in every row, IS THE sha256 OF THE DUMP (.gsa) THAT YtojnnbolfmefkaaProg.lean LOADS. Nothing in Lean hashes anything: it is a label: what it is worth is what the hold of that sum in a sandbox is worth. -/
noncomputable def Try.pinned : Pinned := { name := "ytojnnbolfmefkaa", sum := "fa894c3d60da5236580b905981d4e00e7fda22268dd4963004e9f2bde085182f", checked := Try.checked }
namespace Rows
def none {H : Type} : Left H := { results := [], args := [] }

/-- 'engrosserlaw05.PointAdds': WHATEVER THE INPUT: true; the input reads as it did. -/
def pointAddsSpec : ChangeSpec := { name := "pointAdds", fn := fun _ => fun
  | [d1, d2, d3, d4, d5, d6] => { results := [.lit (.bool true)], args := [d1, d2, d3, d4, d5, d6] }
  | _ => none }
def pointAddsRow : OpenClaim := { program := "ytojnnbolfmefkaa", sum := "fa894c3d60da5236580b905981d4e00e7fda22268dd4963004e9f2bde085182f", func := "engrosser/engrosserlaw05.PointAdds", spec := "pointAdds", inPlace := ["math/bits.Add64"], apart := false }
def PointAddsSaid : Prop := pointAddsRow.holds Try.pinned (OpenSpec.ofChange pointAddsSpec)

/-- ITS FALSE NEIGHBOUR: 'it returns false'. Refute it at one input. -/
def pointAddsWrong : ChangeSpec := { name := "pointAdds", fn := fun _ => fun
  | [d1, d2, d3, d4, d5, d6] => { results := [.lit (.bool false)], args := [d1, d2, d3, d4, d5, d6] }
  | _ => none }
def PointAddsWrongFalsely : Prop := pointAddsRow.holds Try.pinned (OpenSpec.ofChange pointAddsWrong)

/-- 'engrosserlaw05.PointTimes': WHATEVER THE INPUT: true; the input reads as it did. -/
def pointTimesSpec : ChangeSpec := { name := "pointTimes", fn := fun _ => fun
  | [d1, d2, d3, d4] => { results := [.lit (.bool true)], args := [d1, d2, d3, d4] }
  | _ => none }
def pointTimesRow : OpenClaim := { program := "ytojnnbolfmefkaa", sum := "fa894c3d60da5236580b905981d4e00e7fda22268dd4963004e9f2bde085182f", func := "engrosser/engrosserlaw05.PointTimes", spec := "pointTimes", inPlace := ["math/bits.Add64"], unfollowed := true, recurses := true, apart := false }
def PointTimesSaid : Prop := pointTimesRow.holds Try.pinned (OpenSpec.ofChange pointTimesSpec)

/-- ITS FALSE NEIGHBOUR: 'it returns false'. Refute it at one input. -/
def pointTimesWrong : ChangeSpec := { name := "pointTimes", fn := fun _ => fun
  | [d1, d2, d3, d4] => { results := [.lit (.bool false)], args := [d1, d2, d3, d4] }
  | _ => none }
def PointTimesWrongFalsely : Prop := pointTimesRow.holds Try.pinned (OpenSpec.ofChange pointTimesWrong)

/-- 'engrosserlaw05.PointSums': WHATEVER THE INPUT: true; the input reads as it did. -/
def pointSumsSpec : ChangeSpec := { name := "pointSums", fn := fun _ => fun
  | [d1, d2] => { results := [.lit (.bool true)], args := [d1, d2] }
  | _ => none }
def pointSumsRow : OpenClaim := { program := "ytojnnbolfmefkaa", sum := "fa894c3d60da5236580b905981d4e00e7fda22268dd4963004e9f2bde085182f", func := "engrosser/engrosserlaw05.PointSums", spec := "pointSums", inPlace := ["math/bits.Add64"], unfollowed := true, recurses := true, apart := false }
def PointSumsSaid : Prop := pointSumsRow.holds Try.pinned (OpenSpec.ofChange pointSumsSpec)

/-- ITS FALSE NEIGHBOUR: 'it returns false'. Refute it at one input. -/
def pointSumsWrong : ChangeSpec := { name := "pointSums", fn := fun _ => fun
  | [d1, d2] => { results := [.lit (.bool false)], args := [d1, d2] }
  | _ => none }
def PointSumsWrongFalsely : Prop := pointSumsRow.holds Try.pinned (OpenSpec.ofChange pointSumsWrong)

/-- 'engrosserlaw05.PointGroup': WHATEVER THE INPUT: true; the input reads as it did. -/
def pointGroupSpec : ChangeSpec := { name := "pointGroup", fn := fun _ => fun
  | [d1, d2, d3] => { results := [.lit (.bool true)], args := [d1, d2, d3] }
  | _ => none }
def pointGroupRow : OpenClaim := { program := "ytojnnbolfmefkaa", sum := "fa894c3d60da5236580b905981d4e00e7fda22268dd4963004e9f2bde085182f", func := "engrosser/engrosserlaw05.PointGroup", spec := "pointGroup", inPlace := ["math/bits.Add64"], unfollowed := true, recurses := true, apart := false }
def PointGroupSaid : Prop := pointGroupRow.holds Try.pinned (OpenSpec.ofChange pointGroupSpec)

/-- ITS FALSE NEIGHBOUR: 'it returns false'. Refute it at one input. -/
def pointGroupWrong : ChangeSpec := { name := "pointGroup", fn := fun _ => fun
  | [d1, d2, d3] => { results := [.lit (.bool false)], args := [d1, d2, d3] }
  | _ => none }
def PointGroupWrongFalsely : Prop := pointGroupRow.holds Try.pinned (OpenSpec.ofChange pointGroupWrong)

/-- 'engrosserlaw05.PointDoubles': WHATEVER THE INPUT: true; the input reads as it did. -/
def pointDoublesSpec : ChangeSpec := { name := "pointDoubles", fn := fun _ => fun
  | [d1, d2, d3] => { results := [.lit (.bool true)], args := [d1, d2, d3] }
  | _ => none }
def pointDoublesRow : OpenClaim := { program := "ytojnnbolfmefkaa", sum := "fa894c3d60da5236580b905981d4e00e7fda22268dd4963004e9f2bde085182f", func := "engrosser/engrosserlaw05.PointDoubles", spec := "pointDoubles", inPlace := ["math/bits.Add64"], unfollowed := true, recurses := true, apart := false }
def PointDoublesSaid : Prop := pointDoublesRow.holds Try.pinned (OpenSpec.ofChange pointDoublesSpec)

/-- ITS FALSE NEIGHBOUR: 'it returns false'. Refute it at one input. -/
def pointDoublesWrong : ChangeSpec := { name := "pointDoubles", fn := fun _ => fun
  | [d1, d2, d3] => { results := [.lit (.bool false)], args := [d1, d2, d3] }
  | _ => none }
def PointDoublesWrongFalsely : Prop := pointDoublesRow.holds Try.pinned (OpenSpec.ofChange pointDoublesWrong)

/-- 'engrosserlaw05.PointReads': WHATEVER THE INPUT: true; the input reads as it did. -/
def pointReadsSpec : ChangeSpec := { name := "pointReads", fn := fun _ => fun
  | [d] => { results := [.lit (.bool true)], args := [d] }
  | _ => none }
def pointReadsRow : OpenClaim := { program := "ytojnnbolfmefkaa", sum := "fa894c3d60da5236580b905981d4e00e7fda22268dd4963004e9f2bde085182f", func := "engrosser/engrosserlaw05.PointReads", spec := "pointReads", inPlace := ["math/bits.Add64"], apart := false }
def PointReadsSaid : Prop := pointReadsRow.holds Try.pinned (OpenSpec.ofChange pointReadsSpec)

/-- ITS FALSE NEIGHBOUR: 'it returns false'. Refute it at one input. -/
def pointReadsWrong : ChangeSpec := { name := "pointReads", fn := fun _ => fun
  | [d] => { results := [.lit (.bool false)], args := [d] }
  | _ => none }
def PointReadsWrongFalsely : Prop := pointReadsRow.holds Try.pinned (OpenSpec.ofChange pointReadsWrong)

/-- 'engrosserlaw05.PointBack': WHATEVER THE INPUT: true; the input reads as it did. -/
def pointBackSpec : ChangeSpec := { name := "pointBack", fn := fun _ => fun
  | [d1, d2] => { results := [.lit (.bool true)], args := [d1, d2] }
  | _ => none }
def pointBackRow : OpenClaim := { program := "ytojnnbolfmefkaa", sum := "fa894c3d60da5236580b905981d4e00e7fda22268dd4963004e9f2bde085182f", func := "engrosser/engrosserlaw05.PointBack", spec := "pointBack", inPlace := ["math/bits.Add64"], unfollowed := true, recurses := true, apart := false }
def PointBackSaid : Prop := pointBackRow.holds Try.pinned (OpenSpec.ofChange pointBackSpec)

/-- ITS FALSE NEIGHBOUR: 'it returns false'. Refute it at one input. -/
def pointBackWrong : ChangeSpec := { name := "pointBack", fn := fun _ => fun
  | [d1, d2] => { results := [.lit (.bool false)], args := [d1, d2] }
  | _ => none }
def PointBackWrongFalsely : Prop := pointBackRow.holds Try.pinned (OpenSpec.ofChange pointBackWrong)

/- THE SECOND FORM. 'bulk': how many values and letters a reading holds, each counted each time it is reached (what is shared counts as often as it is met; a slice's spare places count too). A statement '..UptoSaid' is the law's where the arguments, and the package variables that the reading takes, are together of bulk at most 1048576: NARROWER than '..Said'. Prove '..Said' where nothing that the law and all that it calls make is longer than what came in: it says more and counts as full. Else prove '..UptoSaid'. A law counts once. -/
mutual
def uptoBulk {H : Type} : DataW H → Nat
  | .lit (.string bytes) => bytes.length + 1
  | .lit _ => 1
  | .nil => 1
  | .ptr d => uptoBulk d + 1
  | .slice elems spare => uptoBulkAll elems + uptoBulkAll spare + 1
  | .agg parts => uptoBulkAll parts + 1
  | .iface _ d => uptoBulk d + 1
  | .map entries => uptoBulkEntries entries + 1
  | .held _ => 1
def uptoBulkAll {H : Type} : List (DataW H) → Nat
  | [] => 0
  | d :: r => uptoBulk d + uptoBulkAll r
def uptoBulkEntries {H : Type} : List (Lit × DataW H) → Nat
  | [] => 0
  | x :: r => uptoBulkEntry x + uptoBulkEntries r
def uptoBulkEntry {H : Type} : Lit × DataW H → Nat
  | (.string bytes, d) => bytes.length + uptoBulk d + 1
  | (_, d) => uptoBulk d + 1
 end
def uptoSmall : (H : Type) → List (DataW H) → Bool := fun _ ds => decide (uptoBulkAll ds ≤ 1048576)
def OpenSpec.upto (s : _root_.Go.ChangeSpec) : _root_.Go.OpenSpec := { _root_.Go.OpenSpec.ofChange s with cond := some uptoSmall }

/-- 'engrosserlaw05.PointAdds', WHERE WHAT IT READS IS OF BULK AT MOST 1048576: true; the input reads as it did. -/
def pointAddsUptoRow : OpenClaim := { program := "ytojnnbolfmefkaa", sum := "fa894c3d60da5236580b905981d4e00e7fda22268dd4963004e9f2bde085182f", func := "engrosser/engrosserlaw05.PointAdds", spec := "pointAdds", inPlace := ["math/bits.Add64"], apart := false, narrowed := true }
def PointAddsUptoSaid : Prop := pointAddsUptoRow.holds Try.pinned (OpenSpec.upto pointAddsSpec)

/-- 'engrosserlaw05.PointTimes', WHERE WHAT IT READS IS OF BULK AT MOST 1048576: true; the input reads as it did. -/
def pointTimesUptoRow : OpenClaim := { program := "ytojnnbolfmefkaa", sum := "fa894c3d60da5236580b905981d4e00e7fda22268dd4963004e9f2bde085182f", func := "engrosser/engrosserlaw05.PointTimes", spec := "pointTimes", inPlace := ["math/bits.Add64"], unfollowed := true, recurses := true, apart := false, narrowed := true }
def PointTimesUptoSaid : Prop := pointTimesUptoRow.holds Try.pinned (OpenSpec.upto pointTimesSpec)

/-- 'engrosserlaw05.PointSums', WHERE WHAT IT READS IS OF BULK AT MOST 1048576: true; the input reads as it did. -/
def pointSumsUptoRow : OpenClaim := { program := "ytojnnbolfmefkaa", sum := "fa894c3d60da5236580b905981d4e00e7fda22268dd4963004e9f2bde085182f", func := "engrosser/engrosserlaw05.PointSums", spec := "pointSums", inPlace := ["math/bits.Add64"], unfollowed := true, recurses := true, apart := false, narrowed := true }
def PointSumsUptoSaid : Prop := pointSumsUptoRow.holds Try.pinned (OpenSpec.upto pointSumsSpec)

/-- 'engrosserlaw05.PointGroup', WHERE WHAT IT READS IS OF BULK AT MOST 1048576: true; the input reads as it did. -/
def pointGroupUptoRow : OpenClaim := { program := "ytojnnbolfmefkaa", sum := "fa894c3d60da5236580b905981d4e00e7fda22268dd4963004e9f2bde085182f", func := "engrosser/engrosserlaw05.PointGroup", spec := "pointGroup", inPlace := ["math/bits.Add64"], unfollowed := true, recurses := true, apart := false, narrowed := true }
def PointGroupUptoSaid : Prop := pointGroupUptoRow.holds Try.pinned (OpenSpec.upto pointGroupSpec)

/-- 'engrosserlaw05.PointDoubles', WHERE WHAT IT READS IS OF BULK AT MOST 1048576: true; the input reads as it did. -/
def pointDoublesUptoRow : OpenClaim := { program := "ytojnnbolfmefkaa", sum := "fa894c3d60da5236580b905981d4e00e7fda22268dd4963004e9f2bde085182f", func := "engrosser/engrosserlaw05.PointDoubles", spec := "pointDoubles", inPlace := ["math/bits.Add64"], unfollowed := true, recurses := true, apart := false, narrowed := true }
def PointDoublesUptoSaid : Prop := pointDoublesUptoRow.holds Try.pinned (OpenSpec.upto pointDoublesSpec)

/-- 'engrosserlaw05.PointReads', WHERE WHAT IT READS IS OF BULK AT MOST 1048576: true; the input reads as it did. -/
def pointReadsUptoRow : OpenClaim := { program := "ytojnnbolfmefkaa", sum := "fa894c3d60da5236580b905981d4e00e7fda22268dd4963004e9f2bde085182f", func := "engrosser/engrosserlaw05.PointReads", spec := "pointReads", inPlace := ["math/bits.Add64"], apart := false, narrowed := true }
def PointReadsUptoSaid : Prop := pointReadsUptoRow.holds Try.pinned (OpenSpec.upto pointReadsSpec)

/-- 'engrosserlaw05.PointBack', WHERE WHAT IT READS IS OF BULK AT MOST 1048576: true; the input reads as it did. -/
def pointBackUptoRow : OpenClaim := { program := "ytojnnbolfmefkaa", sum := "fa894c3d60da5236580b905981d4e00e7fda22268dd4963004e9f2bde085182f", func := "engrosser/engrosserlaw05.PointBack", spec := "pointBack", inPlace := ["math/bits.Add64"], unfollowed := true, recurses := true, apart := false, narrowed := true }
def PointBackUptoSaid : Prop := pointBackUptoRow.holds Try.pinned (OpenSpec.upto pointBackSpec)

end Rows
end Go.Proofs.Ytojnnbolfmefkaa
