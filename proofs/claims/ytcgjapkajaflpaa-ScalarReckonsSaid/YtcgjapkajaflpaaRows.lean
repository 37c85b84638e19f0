/-
  No cell of these rows narrows 'for every input' (looked for: loops, veiled, ifaces, maps, wideKeys, modest, calm, conditions, laid).
  DERIVED. THE GIVEN ROWS OF THIS SEAT. 6 by the template 'for every input the law returns true; each argument reads behind the call as it read before'; 0 by the template 'total and deterministic' (their statements: YtcgjapkajaflpaaTotals.lean).
  GIVEN WITH THE SEED: the statements are not yours to turn. If you find one false, say at which input.
  Laid BY PROGRAM, IN A SANDBOX (cutbox-rows.mjs): the forced cells as the released guide's own fill.sh prints them over the translation 497d0c9ae28bff87… (all of the seat's roots in one cut). By AI agents, Wed Nov 11 2026. No macro, syntax, notation, axiom, sorry.
-/
import Derived.Test.YtcgjapkajaflpaaChecked
import GoSem.Claim
import GoSem.ClaimJoined
import GoSem.ClaimMapViews
import Derived.JoinedTies
import Derived.KernelRfl
namespace Go.Proofs.Ytcgjapkajaflpaa
/- THE CELL 'sum', in the pinned program and in every row, IS THE sha256 OF THE DUMP (.gsa) THAT YtcgjapkajaflpaaProg.lean LOADS. Nothing in Lean hashes anything: it is a label: what it is worth is what the hold of that sum in a sandbox is worth. -/
noncomputable def Try.pinned : Pinned := { name := "ytcgjapkajaflpaa", sum := "497d0c9ae28bff877a6cb230b59dd5e6f67ec55fc39a44d8995be20c759ed660", checked := Try.checked }
namespace Rows
def none {H : Type} : Left H := { results := [], args := [] }

/-- 'engrosserlaw04.ScalarReckons': WHATEVER THE INPUT: true; the input reads as it did. -/
def scalarReckonsSpec : ChangeSpec := { name := "scalarReckons", fn := fun _ => fun
  | [d1, d2, d3] => { results := [.lit (.bool true)], args := [d1, d2, d3] }
  | _ => none }
def scalarReckonsRow : OpenClaim := { program := "ytcgjapkajaflpaa", sum := "497d0c9ae28bff877a6cb230b59dd5e6f67ec55fc39a44d8995be20c759ed660", func := "engrosser/engrosserlaw04.ScalarReckons", spec := "scalarReckons", inPlace := ["math/bits.Add64", "math/bits.Sub64"], apart := false }
def ScalarReckonsSaid : Prop := scalarReckonsRow.holds Try.pinned (OpenSpec.ofChange scalarReckonsSpec)

/-- ITS FALSE NEIGHBOUR: 'it returns false'. Refute it at one input. -/
def scalarReckonsWrong : ChangeSpec := { name := "scalarReckons", fn := fun _ => fun
  | [d1, d2, d3] => { results := [.lit (.bool false)], args := [d1, d2, d3] }
  | _ => none }
def ScalarReckonsWrongFalsely : Prop := scalarReckonsRow.holds Try.pinned (OpenSpec.ofChange scalarReckonsWrong)

/-- 'engrosserlaw04.ScalarTwice': WHATEVER THE INPUT: true; the input reads as it did. -/
def scalarTwiceSpec : ChangeSpec := { name := "scalarTwice", fn := fun _ => fun
  | [d1, d2, d3] => { results := [.lit (.bool true)], args := [d1, d2, d3] }
  | _ => none }
def scalarTwiceRow : OpenClaim := { program := "ytcgjapkajaflpaa", sum := "497d0c9ae28bff877a6cb230b59dd5e6f67ec55fc39a44d8995be20c759ed660", func := "engrosser/engrosserlaw04.ScalarTwice", spec := "scalarTwice", inPlace := ["math/bits.Add64", "math/bits.Sub64"], apart := false }
def ScalarTwiceSaid : Prop := scalarTwiceRow.holds Try.pinned (OpenSpec.ofChange scalarTwiceSpec)

/-- ITS FALSE NEIGHBOUR: 'it returns false'. Refute it at one input. -/
def scalarTwiceWrong : ChangeSpec := { name := "scalarTwice", fn := fun _ => fun
  | [d1, d2, d3] => { results := [.lit (.bool false)], args := [d1, d2, d3] }
  | _ => none }
def ScalarTwiceWrongFalsely : Prop := scalarTwiceRow.holds Try.pinned (OpenSpec.ofChange scalarTwiceWrong)

/-- 'engrosserlaw04.ScalarSpreads': WHATEVER THE INPUT: true; the input reads as it did. -/
def scalarSpreadsSpec : ChangeSpec := { name := "scalarSpreads", fn := fun _ => fun
  | [d1, d2, d3] => { results := [.lit (.bool true)], args := [d1, d2, d3] }
  | _ => none }
def scalarSpreadsRow : OpenClaim := { program := "ytcgjapkajaflpaa", sum := "497d0c9ae28bff877a6cb230b59dd5e6f67ec55fc39a44d8995be20c759ed660", func := "engrosser/engrosserlaw04.ScalarSpreads", spec := "scalarSpreads", inPlace := ["math/bits.Add64", "math/bits.Sub64"], apart := false }
def ScalarSpreadsSaid : Prop := scalarSpreadsRow.holds Try.pinned (OpenSpec.ofChange scalarSpreadsSpec)

/-- ITS FALSE NEIGHBOUR: 'it returns false'. Refute it at one input. -/
def scalarSpreadsWrong : ChangeSpec := { name := "scalarSpreads", fn := fun _ => fun
  | [d1, d2, d3] => { results := [.lit (.bool false)], args := [d1, d2, d3] }
  | _ => none }
def ScalarSpreadsWrongFalsely : Prop := scalarSpreadsRow.holds Try.pinned (OpenSpec.ofChange scalarSpreadsWrong)

/-- 'engrosserlaw04.ScalarShifts': WHATEVER THE INPUT: true; the input reads as it did. -/
def scalarShiftsSpec : ChangeSpec := { name := "scalarShifts", fn := fun _ => fun
  | [d1, d2, d3] => { results := [.lit (.bool true)], args := [d1, d2, d3] }
  | _ => none }
def scalarShiftsRow : OpenClaim := { program := "ytcgjapkajaflpaa", sum := "497d0c9ae28bff877a6cb230b59dd5e6f67ec55fc39a44d8995be20c759ed660", func := "engrosser/engrosserlaw04.ScalarShifts", spec := "scalarShifts", inPlace := ["math/bits.Add64", "math/bits.Sub64"], apart := false }
def ScalarShiftsSaid : Prop := scalarShiftsRow.holds Try.pinned (OpenSpec.ofChange scalarShiftsSpec)

/-- ITS FALSE NEIGHBOUR: 'it returns false'. Refute it at one input. -/
def scalarShiftsWrong : ChangeSpec := { name := "scalarShifts", fn := fun _ => fun
  | [d1, d2, d3] => { results := [.lit (.bool false)], args := [d1, d2, d3] }
  | _ => none }
def ScalarShiftsWrongFalsely : Prop := scalarShiftsRow.holds Try.pinned (OpenSpec.ofChange scalarShiftsWrong)

/-- 'engrosserlaw04.ScalarBits': WHATEVER THE INPUT: true; the input reads as it did. -/
def scalarBitsSpec : ChangeSpec := { name := "scalarBits", fn := fun _ => fun
  | [d1, d2] => { results := [.lit (.bool true)], args := [d1, d2] }
  | _ => none }
def scalarBitsRow : OpenClaim := { program := "ytcgjapkajaflpaa", sum := "497d0c9ae28bff877a6cb230b59dd5e6f67ec55fc39a44d8995be20c759ed660", func := "engrosser/engrosserlaw04.ScalarBits", spec := "scalarBits", inPlace := ["math/bits.Add64", "math/bits.Sub64"], apart := false }
def ScalarBitsSaid : Prop := scalarBitsRow.holds Try.pinned (OpenSpec.ofChange scalarBitsSpec)

/-- ITS FALSE NEIGHBOUR: 'it returns false'. Refute it at one input. -/
def scalarBitsWrong : ChangeSpec := { name := "scalarBits", fn := fun _ => fun
  | [d1, d2] => { results := [.lit (.bool false)], args := [d1, d2] }
  | _ => none }
def ScalarBitsWrongFalsely : Prop := scalarBitsRow.holds Try.pinned (OpenSpec.ofChange scalarBitsWrong)

/-- 'engrosserlaw04.ScalarClamps': WHATEVER THE INPUT: true; the input reads as it did. -/
def scalarClampsSpec : ChangeSpec := { name := "scalarClamps", fn := fun _ => fun
  | [d1, d2] => { results := [.lit (.bool true)], args := [d1, d2] }
  | _ => none }
def scalarClampsRow : OpenClaim := { program := "ytcgjapkajaflpaa", sum := "497d0c9ae28bff877a6cb230b59dd5e6f67ec55fc39a44d8995be20c759ed660", func := "engrosser/engrosserlaw04.ScalarClamps", spec := "scalarClamps", inPlace := ["math/bits.Add64", "math/bits.Sub64"], apart := false }
def ScalarClampsSaid : Prop := scalarClampsRow.holds Try.pinned (OpenSpec.ofChange scalarClampsSpec)

/-- ITS FALSE NEIGHBOUR: 'it returns false'. Refute it at one input. -/
def scalarClampsWrong : ChangeSpec := { name := "scalarClamps", fn := fun _ => fun
  | [d1, d2] => { results := [.lit (.bool false)], args := [d1, d2] }
  | _ => none }
def ScalarClampsWrongFalsely : Prop := scalarClampsRow.holds Try.pinned (OpenSpec.ofChange scalarClampsWrong)

/- THE SECOND FORM. 'bulk': how many values and letters a reading holds, each counted each time it is reached (what is shared counts as often as it is met; a slice's spare places count too). A statement '..UptoSaid' is the law's where the arguments, and the package variables that the reading takes, are together of bulk at most 1048576: NARROWER than '..Said'. Prove '..Said' where nothing that the law and all that it calls make is longer than what came in: it says more and counts as full. Else prove '..UptoSaid'. A law counts once. -/
mutual
def uptoBulk {H : Type} : DataW H → Nat
  | .lit (.string bytes) => bytes.length + 1
  | .lit _ => 1
  | .nil => 1
  | .ptr d => uptoBulk d + 1
  | .slice elems spare => uptoBulkAll elems + uptoBulkAll spare + 1
  | .agg parts => uptoBulkAll parts + 1
  | .iface _ d => uptoBulk d + 1
  | .map entries => uptoBulkEntries entries + 1
  | .held _ => 1
def uptoBulkAll {H : Type} : List (DataW H) → Nat
  | [] => 0
  | d :: r => uptoBulk d + uptoBulkAll r
def uptoBulkEntries {H : Type} : List (Lit × DataW H) → Nat
  | [] => 0
  | x :: r => uptoBulkEntry x + uptoBulkEntries r
def uptoBulkEntry {H : Type} : Lit × DataW H → Nat
  | (.string bytes, d) => bytes.length + uptoBulk d + 1
  | (_, d) => uptoBulk d + 1
 end
def uptoSmall : (H : Type) → List (DataW H) → Bool := fun _ ds => decide (uptoBulkAll ds ≤ 1048576)
def OpenSpec.upto (s : _root_.Go.ChangeSpec) : _root_.Go.OpenSpec := { _root_.Go.OpenSpec.ofChange s with cond := some uptoSmall }

/-- 'engrosserlaw04.ScalarReckons', WHERE WHAT IT READS IS OF BULK AT MOST 1048576: true; the input reads as it did. -/
def scalarReckonsUptoRow : OpenClaim := { program := "ytcgjapkajaflpaa", sum := "497d0c9ae28bff877a6cb230b59dd5e6f67ec55fc39a44d8995be20c759ed660", func := "engrosser/engrosserlaw04.ScalarReckons", spec := "scalarReckons", inPlace := ["math/bits.Add64", "math/bits.Sub64"], apart := false, narrowed := true }
def ScalarReckonsUptoSaid : Prop := scalarReckonsUptoRow.holds Try.pinned (OpenSpec.upto scalarReckonsSpec)

/-- 'engrosserlaw04.ScalarTwice', WHERE WHAT IT READS IS OF BULK AT MOST 1048576: true; the input reads as it did. -/
def scalarTwiceUptoRow : OpenClaim := { program := "ytcgjapkajaflpaa", sum := "497d0c9ae28bff877a6cb230b59dd5e6f67ec55fc39a44d8995be20c759ed660", func := "engrosser/engrosserlaw04.ScalarTwice", spec := "scalarTwice", inPlace := ["math/bits.Add64", "math/bits.Sub64"], apart := false, narrowed := true }
def ScalarTwiceUptoSaid : Prop := scalarTwiceUptoRow.holds Try.pinned (OpenSpec.upto scalarTwiceSpec)

/-- 'engrosserlaw04.ScalarSpreads', WHERE WHAT IT READS IS OF BULK AT MOST 1048576: true; the input reads as it did. -/
def scalarSpreadsUptoRow : OpenClaim := { program := "ytcgjapkajaflpaa", sum := "497d0c9ae28bff877a6cb230b59dd5e6f67ec55fc39a44d8995be20c759ed660", func := "engrosser/engrosserlaw04.ScalarSpreads", spec := "scalarSpreads", inPlace := ["math/bits.Add64", "math/bits.Sub64"], apart := false, narrowed := true }
def ScalarSpreadsUptoSaid : Prop := scalarSpreadsUptoRow.holds Try.pinned (OpenSpec.upto scalarSpreadsSpec)

/-- 'engrosserlaw04.ScalarShifts', WHERE WHAT IT READS IS OF BULK AT MOST 1048576: true; the input reads as it did. -/
def scalarShiftsUptoRow : OpenClaim := { program := "ytcgjapkajaflpaa", sum := "497d0c9ae28bff877a6cb230b59dd5e6f67ec55fc39a44d8995be20c759ed660", func := "engrosser/engrosserlaw04.ScalarShifts", spec := "scalarShifts", inPlace := ["math/bits.Add64", "math/bits.Sub64"], apart := false, narrowed := true }
def ScalarShiftsUptoSaid : Prop := scalarShiftsUptoRow.holds Try.pinned (OpenSpec.upto scalarShiftsSpec)

/-- 'engrosserlaw04.ScalarBits', WHERE WHAT IT READS IS OF BULK AT MOST 1048576: true; the input reads as it did. -/
def scalarBitsUptoRow : OpenClaim := { program := "ytcgjapkajaflpaa", sum := "497d0c9ae28bff877a6cb230b59dd5e6f67ec55fc39a44d8995be20c759ed660", func := "engrosser/engrosserlaw04.ScalarBits", spec := "scalarBits", inPlace := ["math/bits.Add64", "math/bits.Sub64"], apart := false, narrowed := true }
def ScalarBitsUptoSaid : Prop := scalarBitsUptoRow.holds Try.pinned (OpenSpec.upto scalarBitsSpec)

/-- 'engrosserlaw04.ScalarClamps', WHERE WHAT IT READS IS OF BULK AT MOST 1048576: true; the input reads as it did. -/
def scalarClampsUptoRow : OpenClaim := { program := "ytcgjapkajaflpaa", sum := "497d0c9ae28bff877a6cb230b59dd5e6f67ec55fc39a44d8995be20c759ed660", func := "engrosser/engrosserlaw04.ScalarClamps", spec := "scalarClamps", inPlace := ["math/bits.Add64", "math/bits.Sub64"], apart := false, narrowed := true }
def ScalarClampsUptoSaid : Prop := scalarClampsUptoRow.holds Try.pinned (OpenSpec.upto scalarClampsSpec)

end Rows
end Go.Proofs.Ytcgjapkajaflpaa
