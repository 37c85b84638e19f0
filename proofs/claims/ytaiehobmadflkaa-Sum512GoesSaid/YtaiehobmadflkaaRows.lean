/-
  No cell of these rows narrows 'for every input' (looked for: loops, veiled, ifaces, maps, wideKeys, modest, calm, conditions, laid).
  DERIVED. THE GIVEN ROWS OF THIS SEAT. 5 by the template 'for every input the law returns true; each argument reads behind the call as it read before'; 0 by the template 'total and deterministic' (their statements: YtaiehobmadflkaaTotals.lean).
  GIVEN WITH THE SEED: the statements are not yours to turn. If you find one false, say at which input.
  Laid BY PROGRAM, IN A SANDBOX (cutbox-rows.mjs): the forced cells as the released guide's own fill.sh prints them over the translation 74d0b1afecc70288… (all of the seat's roots in one cut). By AI agents, Wed Nov 11 2026. No macro, syntax, notation, axiom, sorry.
-/
import Derived.Test.YtaiehobmadflkaaChecked
import GoSem.Claim
import GoSem.ClaimJoined
import GoSem.ClaimMapViews
import Derived.JoinedTies
import Derived.KernelRfl
namespace Go.Proofs.Ytaiehobmadflkaa
/- THE CELL 'sum', in the pinned program and in every row, IS THE sha256 OF THE DUMP (.gsa) THAT YtaiehobmadflkaaProg.lean LOADS. Nothing in Lean hashes anything: it is a label: what it is worth is what the hold of that sum in a sandbox is worth. -/
noncomputable def Try.pinned : Pinned := { name := "ytaiehobmadflkaa", sum := "74d0b1afecc702888fd6434f5eb0c9aabea102d50b5c717e46db3ea284d63dbb", checked := Try.checked }
namespace Rows
def none {H : Type} : Left H := { results := [], args := [] }

/-- 'engrosserlaw02.Sum512Sums': WHATEVER THE INPUT: true; the input reads as it did. -/
def sum512SumsSpec : ChangeSpec := { name := "sum512Sums", fn := fun _ => fun
  | [d] => { results := [.lit (.bool true)], args := [d] }
  | _ => none }
def sum512SumsRow : OpenClaim := { program := "ytaiehobmadflkaa", sum := "74d0b1afecc702888fd6434f5eb0c9aabea102d50b5c717e46db3ea284d63dbb", func := "engrosser/engrosserlaw02.Sum512Sums", spec := "sum512Sums", inPlace := ["math/bits.Add64"], apart := false }
def Sum512SumsSaid : Prop := sum512SumsRow.holds Try.pinned (OpenSpec.ofChange sum512SumsSpec)

/-- ITS FALSE NEIGHBOUR: 'it returns false'. Refute it at one input. -/
def sum512SumsWrong : ChangeSpec := { name := "sum512Sums", fn := fun _ => fun
  | [d] => { results := [.lit (.bool false)], args := [d] }
  | _ => none }
def Sum512SumsWrongFalsely : Prop := sum512SumsRow.holds Try.pinned (OpenSpec.ofChange sum512SumsWrong)

/-- 'engrosserlaw02.Sum512Goes': WHATEVER THE INPUT: true; the input reads as it did. -/
def sum512GoesSpec : ChangeSpec := { name := "sum512Goes", fn := fun _ => fun
  | [d] => { results := [.lit (.bool true)], args := [d] }
  | _ => none }
def sum512GoesRow : OpenClaim := { program := "ytaiehobmadflkaa", sum := "74d0b1afecc702888fd6434f5eb0c9aabea102d50b5c717e46db3ea284d63dbb", func := "engrosser/engrosserlaw02.Sum512Goes", spec := "sum512Goes", inPlace := ["math/bits.Add64"], apart := false }
def Sum512GoesSaid : Prop := sum512GoesRow.holds Try.pinned (OpenSpec.ofChange sum512GoesSpec)

/-- ITS FALSE NEIGHBOUR: 'it returns false'. Refute it at one input. -/
def sum512GoesWrong : ChangeSpec := { name := "sum512Goes", fn := fun _ => fun
  | [d] => { results := [.lit (.bool false)], args := [d] }
  | _ => none }
def Sum512GoesWrongFalsely : Prop := sum512GoesRow.holds Try.pinned (OpenSpec.ofChange sum512GoesWrong)

/-- 'engrosserlaw02.Sum512Cuts': WHATEVER THE INPUT: true; the input reads as it did. -/
def sum512CutsSpec : ChangeSpec := { name := "sum512Cuts", fn := fun _ => fun
  | [d1, d2] => { results := [.lit (.bool true)], args := [d1, d2] }
  | _ => none }
def sum512CutsRow : OpenClaim := { program := "ytaiehobmadflkaa", sum := "74d0b1afecc702888fd6434f5eb0c9aabea102d50b5c717e46db3ea284d63dbb", func := "engrosser/engrosserlaw02.Sum512Cuts", spec := "sum512Cuts", inPlace := ["math/bits.Add64"], apart := false }
def Sum512CutsSaid : Prop := sum512CutsRow.holds Try.pinned (OpenSpec.ofChange sum512CutsSpec)

/-- ITS FALSE NEIGHBOUR: 'it returns false'. Refute it at one input. -/
def sum512CutsWrong : ChangeSpec := { name := "sum512Cuts", fn := fun _ => fun
  | [d1, d2] => { results := [.lit (.bool false)], args := [d1, d2] }
  | _ => none }
def Sum512CutsWrongFalsely : Prop := sum512CutsRow.holds Try.pinned (OpenSpec.ofChange sum512CutsWrong)

/-- 'engrosserlaw02.Sum512Known': WHATEVER THE INPUT: true; the input reads as it did. -/
def sum512KnownSpec : ChangeSpec := { name := "sum512Known", fn := fun _ => fun
  | [d] => { results := [.lit (.bool true)], args := [d] }
  | _ => none }
def sum512KnownRow : OpenClaim := { program := "ytaiehobmadflkaa", sum := "74d0b1afecc702888fd6434f5eb0c9aabea102d50b5c717e46db3ea284d63dbb", func := "engrosser/engrosserlaw02.Sum512Known", spec := "sum512Known", inPlace := ["math/bits.Add64"], apart := false }
def Sum512KnownSaid : Prop := sum512KnownRow.holds Try.pinned (OpenSpec.ofChange sum512KnownSpec)

/-- ITS FALSE NEIGHBOUR: 'it returns false'. Refute it at one input. -/
def sum512KnownWrong : ChangeSpec := { name := "sum512Known", fn := fun _ => fun
  | [d] => { results := [.lit (.bool false)], args := [d] }
  | _ => none }
def Sum512KnownWrongFalsely : Prop := sum512KnownRow.holds Try.pinned (OpenSpec.ofChange sum512KnownWrong)

/-- 'engrosserlaw02.Sum512Bytes': WHATEVER THE INPUT: true; the input reads as it did. -/
def sum512BytesSpec : ChangeSpec := { name := "sum512Bytes", fn := fun _ => fun
  | [d1, d2, d3] => { results := [.lit (.bool true)], args := [d1, d2, d3] }
  | _ => none }
def sum512BytesRow : OpenClaim := { program := "ytaiehobmadflkaa", sum := "74d0b1afecc702888fd6434f5eb0c9aabea102d50b5c717e46db3ea284d63dbb", func := "engrosser/engrosserlaw02.Sum512Bytes", spec := "sum512Bytes", inPlace := ["math/bits.Add64"], apart := false }
def Sum512BytesSaid : Prop := sum512BytesRow.holds Try.pinned (OpenSpec.ofChange sum512BytesSpec)

/-- ITS FALSE NEIGHBOUR: 'it returns false'. Refute it at one input. -/
def sum512BytesWrong : ChangeSpec := { name := "sum512Bytes", fn := fun _ => fun
  | [d1, d2, d3] => { results := [.lit (.bool false)], args := [d1, d2, d3] }
  | _ => none }
def Sum512BytesWrongFalsely : Prop := sum512BytesRow.holds Try.pinned (OpenSpec.ofChange sum512BytesWrong)

/- THE SECOND FORM. 'bulk': how many values and letters a reading holds, each counted each time it is reached (what is shared counts as often as it is met; a slice's spare places count too). A statement '..UptoSaid' is the law's where the arguments, and the package variables that the reading takes, are together of bulk at most 1048576: NARROWER than '..Said'. Prove '..Said' where nothing that the law and all that it calls make is longer than what came in: it says more and counts as full. Else prove '..UptoSaid'. A law counts once. -/
mutual
def uptoBulk {H : Type} : DataW H → Nat
  | .lit (.string bytes) => bytes.length + 1
  | .lit _ => 1
  | .nil => 1
  | .ptr d => uptoBulk d + 1
  | .slice elems spare => uptoBulkAll elems + uptoBulkAll spare + 1
  | .agg parts => uptoBulkAll parts + 1
  | .iface _ d => uptoBulk d + 1
  | .map entries => uptoBulkEntries entries + 1
  | .held _ => 1
def uptoBulkAll {H : Type} : List (DataW H) → Nat
  | [] => 0
  | d :: r => uptoBulk d + uptoBulkAll r
def uptoBulkEntries {H : Type} : List (Lit × DataW H) → Nat
  | [] => 0
  | x :: r => uptoBulkEntry x + uptoBulkEntries r
def uptoBulkEntry {H : Type} : Lit × DataW H → Nat
  | (.string bytes, d) => bytes.length + uptoBulk d + 1
  | (_, d) => uptoBulk d + 1
 end
def uptoSmall : (H : Type) → List (DataW H) → Bool := fun _ ds => decide (uptoBulkAll ds ≤ 1048576)
def OpenSpec.upto (s : _root_.Go.ChangeSpec) : _root_.Go.OpenSpec := { _root_.Go.OpenSpec.ofChange s with cond := some uptoSmall }

/-- 'engrosserlaw02.Sum512Sums', WHERE WHAT IT READS IS OF BULK AT MOST 1048576: true; the input reads as it did. -/
def sum512SumsUptoRow : OpenClaim := { program := "ytaiehobmadflkaa", sum := "74d0b1afecc702888fd6434f5eb0c9aabea102d50b5c717e46db3ea284d63dbb", func := "engrosser/engrosserlaw02.Sum512Sums", spec := "sum512Sums", inPlace := ["math/bits.Add64"], apart := false, narrowed := true }
def Sum512SumsUptoSaid : Prop := sum512SumsUptoRow.holds Try.pinned (OpenSpec.upto sum512SumsSpec)

/-- 'engrosserlaw02.Sum512Goes', WHERE WHAT IT READS IS OF BULK AT MOST 1048576: true; the input reads as it did. -/
def sum512GoesUptoRow : OpenClaim := { program := "ytaiehobmadflkaa", sum := "74d0b1afecc702888fd6434f5eb0c9aabea102d50b5c717e46db3ea284d63dbb", func := "engrosser/engrosserlaw02.Sum512Goes", spec := "sum512Goes", inPlace := ["math/bits.Add64"], apart := false, narrowed := true }
def Sum512GoesUptoSaid : Prop := sum512GoesUptoRow.holds Try.pinned (OpenSpec.upto sum512GoesSpec)

/-- 'engrosserlaw02.Sum512Cuts', WHERE WHAT IT READS IS OF BULK AT MOST 1048576: true; the input reads as it did. -/
def sum512CutsUptoRow : OpenClaim := { program := "ytaiehobmadflkaa", sum := "74d0b1afecc702888fd6434f5eb0c9aabea102d50b5c717e46db3ea284d63dbb", func := "engrosser/engrosserlaw02.Sum512Cuts", spec := "sum512Cuts", inPlace := ["math/bits.Add64"], apart := false, narrowed := true }
def Sum512CutsUptoSaid : Prop := sum512CutsUptoRow.holds Try.pinned (OpenSpec.upto sum512CutsSpec)

/-- 'engrosserlaw02.Sum512Known', WHERE WHAT IT READS IS OF BULK AT MOST 1048576: true; the input reads as it did. -/
def sum512KnownUptoRow : OpenClaim := { program := "ytaiehobmadflkaa", sum := "74d0b1afecc702888fd6434f5eb0c9aabea102d50b5c717e46db3ea284d63dbb", func := "engrosser/engrosserlaw02.Sum512Known", spec := "sum512Known", inPlace := ["math/bits.Add64"], apart := false, narrowed := true }
def Sum512KnownUptoSaid : Prop := sum512KnownUptoRow.holds Try.pinned (OpenSpec.upto sum512KnownSpec)

/-- 'engrosserlaw02.Sum512Bytes', WHERE WHAT IT READS IS OF BULK AT MOST 1048576: true; the input reads as it did. -/
def sum512BytesUptoRow : OpenClaim := { program := "ytaiehobmadflkaa", sum := "74d0b1afecc702888fd6434f5eb0c9aabea102d50b5c717e46db3ea284d63dbb", func := "engrosser/engrosserlaw02.Sum512Bytes", spec := "sum512Bytes", inPlace := ["math/bits.Add64"], apart := false, narrowed := true }
def Sum512BytesUptoSaid : Prop := sum512BytesUptoRow.holds Try.pinned (OpenSpec.upto sum512BytesSpec)

end Rows
end Go.Proofs.Ytaiehobmadflkaa
