/-
  NARROWER THAN 'FOR EVERY INPUT', by the rows' own cells (each row's printed sentence says how): B64Joins: laid · B64Digits: laid · B64Texts: laid · B64Numbers: laid · B64Back: laid · B64Counts: laid.
  DERIVED. THE GIVEN ROWS OF THIS SEAT. 6 by the template 'for every input the law returns true; each argument reads behind the call as it read before'; 0 by the template 'total and deterministic' (their statements: YtkomlijabeedpaaDoorTotals.lean).
  GIVEN WITH THE SEED: the statements are not yours to turn. If you find one false, say at which input.
  Laid BY PROGRAM, IN A SANDBOX (cutbox-rows.mjs): the forced cells as the released guide's own fill.sh prints them over the translation 73d3b70b351d9cc4… (all of the seat's roots in one cut). By AI agents, Wed Nov 11 2026. No macro, syntax, notation, axiom, sorry.
-/
import Derived.Test.YtkomlijabeedpaaDoorChecked
import GoSem.PinnedTables
import GoSem.Claim
import GoSem.ClaimJoined
import GoSem.ClaimMapViews
import Derived.JoinedTies
import Derived.KernelRfl
namespace Go.Proofs.YtkomlijabeedpaaDoor
/- THE CELL 'sum', in the pinned program and in every row, IS THE sha256 OF THE DUMP (.gsa) THAT YtkomlijabeedpaaDoorProg.lean LOADS. Nothing in Lean hashes anything: it is a label: what it is worth is what the hold of that sum in a sandbox is worth. -/
noncomputable def Tryd.pinned : Pinned := { name := "ytkomlijabeedpaadoor", sum := "73d3b70b351d9cc45eeba999baa3e976fc2ff8b98a1932133d5f50e2f1a3f6cd", checked := Tryd.checked }
namespace Rows
def none {H : Type} : Left H := { results := [], args := [] }

/- WHAT THE LISTED PACKAGE-LEVEL VARIABLES READ AS WHEN THE CALL BEGINS. Each datum BY PROGRAM (the guide's laid-datum.mjs) off the statement by which the dump's own 'gosem.cut.vars' lays the variable. In a bare row this is a premise. The card (YtkomlijabeedpaaDoorCards.lean) ties it to the program's text. -/
def laid_unicode_utf8_acceptRanges {H : Type} : DataW H := .agg [.agg [.lit (.int .u8 128), .lit (.int .u8 191)], .agg [.lit (.int .u8 160), .lit (.int .u8 191)], .agg [.lit (.int .u8 128), .lit (.int .u8 159)], .agg [.lit (.int .u8 144), .lit (.int .u8 191)], .agg [.lit (.int .u8 128), .lit (.int .u8 143)], .agg [.lit (.int .u8 0), .lit (.int .u8 0)], .agg [.lit (.int .u8 0), .lit (.int .u8 0)], .agg [.lit (.int .u8 0), .lit (.int .u8 0)], .agg [.lit (.int .u8 0), .lit (.int .u8 0)], .agg [.lit (.int .u8 0), .lit (.int .u8 0)], .agg [.lit (.int .u8 0), .lit (.int .u8 0)], .agg [.lit (.int .u8 0), .lit (.int .u8 0)], .agg [.lit (.int .u8 0), .lit (.int .u8 0)], .agg [.lit (.int .u8 0), .lit (.int .u8 0)], .agg [.lit (.int .u8 0), .lit (.int .u8 0)], .agg [.lit (.int .u8 0), .lit (.int .u8 0)]]
/-- One of Go's own tables, pinned by name: the form's constant. -/
def laid_unicode_utf8_first : DataW Unit := Go.Pinned.utf8First

/-- 'engrosserlaw07.B64Joins': WHATEVER THE INPUT: true; the input reads as it did. -/
def b64JoinsSpec : ChangeSpec := { name := "b64Joins", fn := fun _ => fun
  | [d1, d2] => { results := [.lit (.bool true)], args := [d1, d2] }
  | _ => none }
def b64JoinsRow : OpenClaim := { program := "ytkomlijabeedpaadoor", sum := "73d3b70b351d9cc45eeba999baa3e976fc2ff8b98a1932133d5f50e2f1a3f6cd", func := "engrosser/engrosserlaw07.B64Joins", spec := "b64Joins", inPlace := ["internal/bytealg.IndexByteString", "internal/bytealg.IndexString", "internal/abi.NoEscape"], unfollowed := true, recurses := true, named := ["unicode/utf8.first", "unicode/utf8.acceptRanges", "internal/bytealg.MaxLen"], apart := false, laid := [("unicode/utf8.acceptRanges", laid_unicode_utf8_acceptRanges), ("unicode/utf8.first", laid_unicode_utf8_first)] }
def B64JoinsSaid : Prop := b64JoinsRow.holds Tryd.pinned (OpenSpec.ofChange b64JoinsSpec)

/-- ITS FALSE NEIGHBOUR: 'it returns false'. Refute it at one input. -/
def b64JoinsWrong : ChangeSpec := { name := "b64Joins", fn := fun _ => fun
  | [d1, d2] => { results := [.lit (.bool false)], args := [d1, d2] }
  | _ => none }
def B64JoinsWrongFalsely : Prop := b64JoinsRow.holds Tryd.pinned (OpenSpec.ofChange b64JoinsWrong)

/-- 'engrosserlaw07.B64Digits': WHATEVER THE INPUT: true; the input reads as it did. -/
def b64DigitsSpec : ChangeSpec := { name := "b64Digits", fn := fun _ => fun
  | [d] => { results := [.lit (.bool true)], args := [d] }
  | _ => none }
def b64DigitsRow : OpenClaim := { program := "ytkomlijabeedpaadoor", sum := "73d3b70b351d9cc45eeba999baa3e976fc2ff8b98a1932133d5f50e2f1a3f6cd", func := "engrosser/engrosserlaw07.B64Digits", spec := "b64Digits", inPlace := ["internal/bytealg.IndexByteString", "internal/bytealg.IndexString", "internal/abi.NoEscape"], unfollowed := true, recurses := true, named := ["unicode/utf8.first", "unicode/utf8.acceptRanges", "internal/bytealg.MaxLen"], apart := false, laid := [("unicode/utf8.acceptRanges", laid_unicode_utf8_acceptRanges), ("unicode/utf8.first", laid_unicode_utf8_first)] }
def B64DigitsSaid : Prop := b64DigitsRow.holds Tryd.pinned (OpenSpec.ofChange b64DigitsSpec)

/-- ITS FALSE NEIGHBOUR: 'it returns false'. Refute it at one input. -/
def b64DigitsWrong : ChangeSpec := { name := "b64Digits", fn := fun _ => fun
  | [d] => { results := [.lit (.bool false)], args := [d] }
  | _ => none }
def B64DigitsWrongFalsely : Prop := b64DigitsRow.holds Tryd.pinned (OpenSpec.ofChange b64DigitsWrong)

/-- 'engrosserlaw07.B64Texts': WHATEVER THE INPUT: true; the input reads as it did. -/
def b64TextsSpec : ChangeSpec := { name := "b64Texts", fn := fun _ => fun
  | [d] => { results := [.lit (.bool true)], args := [d] }
  | _ => none }
def b64TextsRow : OpenClaim := { program := "ytkomlijabeedpaadoor", sum := "73d3b70b351d9cc45eeba999baa3e976fc2ff8b98a1932133d5f50e2f1a3f6cd", func := "engrosser/engrosserlaw07.B64Texts", spec := "b64Texts", inPlace := ["internal/bytealg.IndexByteString", "internal/bytealg.IndexString", "internal/abi.NoEscape"], unfollowed := true, recurses := true, named := ["unicode/utf8.first", "unicode/utf8.acceptRanges", "internal/bytealg.MaxLen"], apart := false, laid := [("unicode/utf8.acceptRanges", laid_unicode_utf8_acceptRanges), ("unicode/utf8.first", laid_unicode_utf8_first)] }
def B64TextsSaid : Prop := b64TextsRow.holds Tryd.pinned (OpenSpec.ofChange b64TextsSpec)

/-- ITS FALSE NEIGHBOUR: 'it returns false'. Refute it at one input. -/
def b64TextsWrong : ChangeSpec := { name := "b64Texts", fn := fun _ => fun
  | [d] => { results := [.lit (.bool false)], args := [d] }
  | _ => none }
def B64TextsWrongFalsely : Prop := b64TextsRow.holds Tryd.pinned (OpenSpec.ofChange b64TextsWrong)

/-- 'engrosserlaw07.B64Numbers': WHATEVER THE INPUT: true; the input reads as it did. -/
def b64NumbersSpec : ChangeSpec := { name := "b64Numbers", fn := fun _ => fun
  | [d1, d2] => { results := [.lit (.bool true)], args := [d1, d2] }
  | _ => none }
def b64NumbersRow : OpenClaim := { program := "ytkomlijabeedpaadoor", sum := "73d3b70b351d9cc45eeba999baa3e976fc2ff8b98a1932133d5f50e2f1a3f6cd", func := "engrosser/engrosserlaw07.B64Numbers", spec := "b64Numbers", inPlace := ["internal/bytealg.IndexByteString", "internal/bytealg.IndexString", "internal/abi.NoEscape"], unfollowed := true, recurses := true, named := ["unicode/utf8.first", "unicode/utf8.acceptRanges", "internal/bytealg.MaxLen"], apart := false, laid := [("unicode/utf8.acceptRanges", laid_unicode_utf8_acceptRanges), ("unicode/utf8.first", laid_unicode_utf8_first)] }
def B64NumbersSaid : Prop := b64NumbersRow.holds Tryd.pinned (OpenSpec.ofChange b64NumbersSpec)

/-- ITS FALSE NEIGHBOUR: 'it returns false'. Refute it at one input. -/
def b64NumbersWrong : ChangeSpec := { name := "b64Numbers", fn := fun _ => fun
  | [d1, d2] => { results := [.lit (.bool false)], args := [d1, d2] }
  | _ => none }
def B64NumbersWrongFalsely : Prop := b64NumbersRow.holds Tryd.pinned (OpenSpec.ofChange b64NumbersWrong)

/-- 'engrosserlaw07.B64Back': WHATEVER THE INPUT: true; the input reads as it did. -/
def b64BackSpec : ChangeSpec := { name := "b64Back", fn := fun _ => fun
  | [d] => { results := [.lit (.bool true)], args := [d] }
  | _ => none }
def b64BackRow : OpenClaim := { program := "ytkomlijabeedpaadoor", sum := "73d3b70b351d9cc45eeba999baa3e976fc2ff8b98a1932133d5f50e2f1a3f6cd", func := "engrosser/engrosserlaw07.B64Back", spec := "b64Back", inPlace := ["internal/bytealg.IndexByteString", "internal/bytealg.IndexString", "internal/abi.NoEscape"], unfollowed := true, recurses := true, named := ["unicode/utf8.first", "unicode/utf8.acceptRanges", "internal/bytealg.MaxLen"], apart := false, laid := [("unicode/utf8.acceptRanges", laid_unicode_utf8_acceptRanges), ("unicode/utf8.first", laid_unicode_utf8_first)] }
def B64BackSaid : Prop := b64BackRow.holds Tryd.pinned (OpenSpec.ofChange b64BackSpec)

/-- ITS FALSE NEIGHBOUR: 'it returns false'. Refute it at one input. -/
def b64BackWrong : ChangeSpec := { name := "b64Back", fn := fun _ => fun
  | [d] => { results := [.lit (.bool false)], args := [d] }
  | _ => none }
def B64BackWrongFalsely : Prop := b64BackRow.holds Tryd.pinned (OpenSpec.ofChange b64BackWrong)

/-- 'engrosserlaw07.B64Counts': WHATEVER THE INPUT: true; the input reads as it did. -/
def b64CountsSpec : ChangeSpec := { name := "b64Counts", fn := fun _ => fun
  | [d1, d2] => { results := [.lit (.bool true)], args := [d1, d2] }
  | _ => none }
def b64CountsRow : OpenClaim := { program := "ytkomlijabeedpaadoor", sum := "73d3b70b351d9cc45eeba999baa3e976fc2ff8b98a1932133d5f50e2f1a3f6cd", func := "engrosser/engrosserlaw07.B64Counts", spec := "b64Counts", inPlace := ["internal/bytealg.IndexByteString", "internal/bytealg.IndexString", "internal/abi.NoEscape"], unfollowed := true, recurses := true, named := ["unicode/utf8.first", "unicode/utf8.acceptRanges", "internal/bytealg.MaxLen"], apart := false, laid := [("unicode/utf8.acceptRanges", laid_unicode_utf8_acceptRanges), ("unicode/utf8.first", laid_unicode_utf8_first)] }
def B64CountsSaid : Prop := b64CountsRow.holds Tryd.pinned (OpenSpec.ofChange b64CountsSpec)

/-- ITS FALSE NEIGHBOUR: 'it returns false'. Refute it at one input. -/
def b64CountsWrong : ChangeSpec := { name := "b64Counts", fn := fun _ => fun
  | [d1, d2] => { results := [.lit (.bool false)], args := [d1, d2] }
  | _ => none }
def B64CountsWrongFalsely : Prop := b64CountsRow.holds Tryd.pinned (OpenSpec.ofChange b64CountsWrong)

/- THE SECOND FORM. 'bulk': how many values and letters a reading holds, each counted each time it is reached (what is shared counts as often as it is met; a slice's spare places count too). A statement '..UptoSaid' is the law's where the arguments, and the package variables that the reading takes, are together of bulk at most 1048576: NARROWER than '..Said'. Prove '..Said' where nothing that the law and all that it calls make is longer than what came in: it says more and counts as full. Else prove '..UptoSaid'. A law counts once. -/
mutual
def uptoBulk {H : Type} : DataW H → Nat
  | .lit (.string bytes) => bytes.length + 1
  | .lit _ => 1
  | .nil => 1
  | .ptr d => uptoBulk d + 1
  | .slice elems spare => uptoBulkAll elems + uptoBulkAll spare + 1
  | .agg parts => uptoBulkAll parts + 1
  | .iface _ d => uptoBulk d + 1
  | .map entries => uptoBulkEntries entries + 1
  | .held _ => 1
def uptoBulkAll {H : Type} : List (DataW H) → Nat
  | [] => 0
  | d :: r => uptoBulk d + uptoBulkAll r
def uptoBulkEntries {H : Type} : List (Lit × DataW H) → Nat
  | [] => 0
  | x :: r => uptoBulkEntry x + uptoBulkEntries r
def uptoBulkEntry {H : Type} : Lit × DataW H → Nat
  | (.string bytes, d) => bytes.length + uptoBulk d + 1
  | (_, d) => uptoBulk d + 1
 end
def uptoSmall : (H : Type) → List (DataW H) → Bool := fun _ ds => decide (uptoBulkAll ds ≤ 1048576)
def OpenSpec.upto (s : _root_.Go.ChangeSpec) : _root_.Go.OpenSpec := { _root_.Go.OpenSpec.ofChange s with cond := some uptoSmall }

/-- 'engrosserlaw07.B64Joins', WHERE WHAT IT READS IS OF BULK AT MOST 1048576: true; the input reads as it did. -/
def b64JoinsUptoRow : OpenClaim := { program := "ytkomlijabeedpaadoor", sum := "73d3b70b351d9cc45eeba999baa3e976fc2ff8b98a1932133d5f50e2f1a3f6cd", func := "engrosser/engrosserlaw07.B64Joins", spec := "b64Joins", inPlace := ["internal/bytealg.IndexByteString", "internal/bytealg.IndexString", "internal/abi.NoEscape"], unfollowed := true, recurses := true, named := ["unicode/utf8.first", "unicode/utf8.acceptRanges", "internal/bytealg.MaxLen"], apart := false, laid := [("unicode/utf8.acceptRanges", laid_unicode_utf8_acceptRanges), ("unicode/utf8.first", laid_unicode_utf8_first)], narrowed := true }
def B64JoinsUptoSaid : Prop := b64JoinsUptoRow.holds Tryd.pinned (OpenSpec.upto b64JoinsSpec)

/-- 'engrosserlaw07.B64Digits', WHERE WHAT IT READS IS OF BULK AT MOST 1048576: true; the input reads as it did. -/
def b64DigitsUptoRow : OpenClaim := { program := "ytkomlijabeedpaadoor", sum := "73d3b70b351d9cc45eeba999baa3e976fc2ff8b98a1932133d5f50e2f1a3f6cd", func := "engrosser/engrosserlaw07.B64Digits", spec := "b64Digits", inPlace := ["internal/bytealg.IndexByteString", "internal/bytealg.IndexString", "internal/abi.NoEscape"], unfollowed := true, recurses := true, named := ["unicode/utf8.first", "unicode/utf8.acceptRanges", "internal/bytealg.MaxLen"], apart := false, laid := [("unicode/utf8.acceptRanges", laid_unicode_utf8_acceptRanges), ("unicode/utf8.first", laid_unicode_utf8_first)], narrowed := true }
def B64DigitsUptoSaid : Prop := b64DigitsUptoRow.holds Tryd.pinned (OpenSpec.upto b64DigitsSpec)

/-- 'engrosserlaw07.B64Texts', WHERE WHAT IT READS IS OF BULK AT MOST 1048576: true; the input reads as it did. -/
def b64TextsUptoRow : OpenClaim := { program := "ytkomlijabeedpaadoor", sum := "73d3b70b351d9cc45eeba999baa3e976fc2ff8b98a1932133d5f50e2f1a3f6cd", func := "engrosser/engrosserlaw07.B64Texts", spec := "b64Texts", inPlace := ["internal/bytealg.IndexByteString", "internal/bytealg.IndexString", "internal/abi.NoEscape"], unfollowed := true, recurses := true, named := ["unicode/utf8.first", "unicode/utf8.acceptRanges", "internal/bytealg.MaxLen"], apart := false, laid := [("unicode/utf8.acceptRanges", laid_unicode_utf8_acceptRanges), ("unicode/utf8.first", laid_unicode_utf8_first)], narrowed := true }
def B64TextsUptoSaid : Prop := b64TextsUptoRow.holds Tryd.pinned (OpenSpec.upto b64TextsSpec)

/-- 'engrosserlaw07.B64Numbers', WHERE WHAT IT READS IS OF BULK AT MOST 1048576: true; the input reads as it did. -/
def b64NumbersUptoRow : OpenClaim := { program := "ytkomlijabeedpaadoor", sum := "73d3b70b351d9cc45eeba999baa3e976fc2ff8b98a1932133d5f50e2f1a3f6cd", func := "engrosser/engrosserlaw07.B64Numbers", spec := "b64Numbers", inPlace := ["internal/bytealg.IndexByteString", "internal/bytealg.IndexString", "internal/abi.NoEscape"], unfollowed := true, recurses := true, named := ["unicode/utf8.first", "unicode/utf8.acceptRanges", "internal/bytealg.MaxLen"], apart := false, laid := [("unicode/utf8.acceptRanges", laid_unicode_utf8_acceptRanges), ("unicode/utf8.first", laid_unicode_utf8_first)], narrowed := true }
def B64NumbersUptoSaid : Prop := b64NumbersUptoRow.holds Tryd.pinned (OpenSpec.upto b64NumbersSpec)

/-- 'engrosserlaw07.B64Back', WHERE WHAT IT READS IS OF BULK AT MOST 1048576: true; the input reads as it did. -/
def b64BackUptoRow : OpenClaim := { program := "ytkomlijabeedpaadoor", sum := "73d3b70b351d9cc45eeba999baa3e976fc2ff8b98a1932133d5f50e2f1a3f6cd", func := "engrosser/engrosserlaw07.B64Back", spec := "b64Back", inPlace := ["internal/bytealg.IndexByteString", "internal/bytealg.IndexString", "internal/abi.NoEscape"], unfollowed := true, recurses := true, named := ["unicode/utf8.first", "unicode/utf8.acceptRanges", "internal/bytealg.MaxLen"], apart := false, laid := [("unicode/utf8.acceptRanges", laid_unicode_utf8_acceptRanges), ("unicode/utf8.first", laid_unicode_utf8_first)], narrowed := true }
def B64BackUptoSaid : Prop := b64BackUptoRow.holds Tryd.pinned (OpenSpec.upto b64BackSpec)

/-- 'engrosserlaw07.B64Counts', WHERE WHAT IT READS IS OF BULK AT MOST 1048576: true; the input reads as it did. -/
def b64CountsUptoRow : OpenClaim := { program := "ytkomlijabeedpaadoor", sum := "73d3b70b351d9cc45eeba999baa3e976fc2ff8b98a1932133d5f50e2f1a3f6cd", func := "engrosser/engrosserlaw07.B64Counts", spec := "b64Counts", inPlace := ["internal/bytealg.IndexByteString", "internal/bytealg.IndexString", "internal/abi.NoEscape"], unfollowed := true, recurses := true, named := ["unicode/utf8.first", "unicode/utf8.acceptRanges", "internal/bytealg.MaxLen"], apart := false, laid := [("unicode/utf8.acceptRanges", laid_unicode_utf8_acceptRanges), ("unicode/utf8.first", laid_unicode_utf8_first)], narrowed := true }
def B64CountsUptoSaid : Prop := b64CountsUptoRow.holds Tryd.pinned (OpenSpec.upto b64CountsSpec)

end Rows
end Go.Proofs.YtkomlijabeedpaaDoor
