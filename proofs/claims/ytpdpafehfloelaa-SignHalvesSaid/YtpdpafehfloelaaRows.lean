/-
  No cell of these rows narrows 'for every input' (looked for: loops, veiled, ifaces, maps, wideKeys, modest, calm, conditions, laid).
  DERIVED. THE GIVEN ROWS OF THIS SEAT. 3 by the template 'for every input the law returns true; each argument reads behind the call as it read before'; 0 by the template 'total and deterministic' (their statements: YtpdpafehfloelaaTotals.lean).
  GIVEN WITH THE SEED: the statements are not yours to turn. If you find one false, say at which input.
  Laid BY PROGRAM, IN A SANDBOX (cutbox-rows.mjs): the forced cells as the released guide's own fill.sh prints them over the translation 45af8202e78b635a… (all of the seat's roots in one cut). By AI agents, Wed Nov 11 2026. No macro, syntax, notation, axiom, sorry.
-/
import Derived.Test.YtpdpafehfloelaaChecked
import GoSem.Claim
import GoSem.ClaimJoined
import GoSem.ClaimMapViews
import Derived.JoinedTies
import Derived.KernelRfl
namespace Go.Proofs.Ytpdpafehfloelaa
/- THE CELL 'sum', in the pinned program and in every row, IS THE sha256 OF THE DUMP (.gsa) THAT YtpdpafehfloelaaProg.lean LOADS. Nothing in Lean hashes anything: it is a label: what it is worth is what the hold of that sum in a sandbox is worth. -/
noncomputable def Try.pinned : Pinned := { name := "ytpdpafehfloelaa", sum := "45af8202e78b635a33ad0727b0634f83a1fe4e9b2402ae42f0b2229a5fdaf696", checked := Try.checked }
namespace Rows
def none {H : Type} : Left H := { results := [], args := [] }

/-- 'engrosserlaw06.SignTaken': WHATEVER THE INPUT: true; the input reads as it did. -/
def signTakenSpec : ChangeSpec := { name := "signTaken", fn := fun _ => fun
  | [d1, d2, d3, d4] => { results := [.lit (.bool true)], args := [d1, d2, d3, d4] }
  | _ => none }
def signTakenRow : OpenClaim := { program := "ytpdpafehfloelaa", sum := "45af8202e78b635a33ad0727b0634f83a1fe4e9b2402ae42f0b2229a5fdaf696", func := "engrosser/engrosserlaw06.SignTaken", spec := "signTaken", inPlace := ["math/bits.Add64", "math/bits.Sub64"], unfollowed := true, recurses := true, apart := false }
def SignTakenSaid : Prop := signTakenRow.holds Try.pinned (OpenSpec.ofChange signTakenSpec)

/-- ITS FALSE NEIGHBOUR: 'it returns false'. Refute it at one input. -/
def signTakenWrong : ChangeSpec := { name := "signTaken", fn := fun _ => fun
  | [d1, d2, d3, d4] => { results := [.lit (.bool false)], args := [d1, d2, d3, d4] }
  | _ => none }
def SignTakenWrongFalsely : Prop := signTakenRow.holds Try.pinned (OpenSpec.ofChange signTakenWrong)

/-- 'engrosserlaw06.SignSeeds': WHATEVER THE INPUT: true; the input reads as it did. -/
def signSeedsSpec : ChangeSpec := { name := "signSeeds", fn := fun _ => fun
  | [d] => { results := [.lit (.bool true)], args := [d] }
  | _ => none }
def signSeedsRow : OpenClaim := { program := "ytpdpafehfloelaa", sum := "45af8202e78b635a33ad0727b0634f83a1fe4e9b2402ae42f0b2229a5fdaf696", func := "engrosser/engrosserlaw06.SignSeeds", spec := "signSeeds", inPlace := ["math/bits.Add64", "math/bits.Sub64"], unfollowed := true, recurses := true, apart := false }
def SignSeedsSaid : Prop := signSeedsRow.holds Try.pinned (OpenSpec.ofChange signSeedsSpec)

/-- ITS FALSE NEIGHBOUR: 'it returns false'. Refute it at one input. -/
def signSeedsWrong : ChangeSpec := { name := "signSeeds", fn := fun _ => fun
  | [d] => { results := [.lit (.bool false)], args := [d] }
  | _ => none }
def SignSeedsWrongFalsely : Prop := signSeedsRow.holds Try.pinned (OpenSpec.ofChange signSeedsWrong)

/-- 'engrosserlaw06.SignHalves': WHATEVER THE INPUT: true; the input reads as it did. -/
def signHalvesSpec : ChangeSpec := { name := "signHalves", fn := fun _ => fun
  | [d1, d2] => { results := [.lit (.bool true)], args := [d1, d2] }
  | _ => none }
def signHalvesRow : OpenClaim := { program := "ytpdpafehfloelaa", sum := "45af8202e78b635a33ad0727b0634f83a1fe4e9b2402ae42f0b2229a5fdaf696", func := "engrosser/engrosserlaw06.SignHalves", spec := "signHalves", inPlace := ["math/bits.Add64", "math/bits.Sub64"], unfollowed := true, recurses := true, apart := false }
def SignHalvesSaid : Prop := signHalvesRow.holds Try.pinned (OpenSpec.ofChange signHalvesSpec)

/-- ITS FALSE NEIGHBOUR: 'it returns false'. Refute it at one input. -/
def signHalvesWrong : ChangeSpec := { name := "signHalves", fn := fun _ => fun
  | [d1, d2] => { results := [.lit (.bool false)], args := [d1, d2] }
  | _ => none }
def SignHalvesWrongFalsely : Prop := signHalvesRow.holds Try.pinned (OpenSpec.ofChange signHalvesWrong)

/- THE SECOND FORM. 'bulk': how many values and letters a reading holds, each counted each time it is reached (what is shared counts as often as it is met; a slice's spare places count too). A statement '..UptoSaid' is the law's where the arguments, and the package variables that the reading takes, are together of bulk at most 1048576: NARROWER than '..Said'. Prove '..Said' where nothing that the law and all that it calls make is longer than what came in: it says more and counts as full. Else prove '..UptoSaid'. A law counts once. -/
mutual
def uptoBulk {H : Type} : DataW H → Nat
  | .lit (.string bytes) => bytes.length + 1
  | .lit _ => 1
  | .nil => 1
  | .ptr d => uptoBulk d + 1
  | .slice elems spare => uptoBulkAll elems + uptoBulkAll spare + 1
  | .agg parts => uptoBulkAll parts + 1
  | .iface _ d => uptoBulk d + 1
  | .map entries => uptoBulkEntries entries + 1
  | .held _ => 1
def uptoBulkAll {H : Type} : List (DataW H) → Nat
  | [] => 0
  | d :: r => uptoBulk d + uptoBulkAll r
def uptoBulkEntries {H : Type} : List (Lit × DataW H) → Nat
  | [] => 0
  | x :: r => uptoBulkEntry x + uptoBulkEntries r
def uptoBulkEntry {H : Type} : Lit × DataW H → Nat
  | (.string bytes, d) => bytes.length + uptoBulk d + 1
  | (_, d) => uptoBulk d + 1
 end
def uptoSmall : (H : Type) → List (DataW H) → Bool := fun _ ds => decide (uptoBulkAll ds ≤ 1048576)
def OpenSpec.upto (s : _root_.Go.ChangeSpec) : _root_.Go.OpenSpec := { _root_.Go.OpenSpec.ofChange s with cond := some uptoSmall }

/-- 'engrosserlaw06.SignTaken', WHERE WHAT IT READS IS OF BULK AT MOST 1048576: true; the input reads as it did. -/
def signTakenUptoRow : OpenClaim := { program := "ytpdpafehfloelaa", sum := "45af8202e78b635a33ad0727b0634f83a1fe4e9b2402ae42f0b2229a5fdaf696", func := "engrosser/engrosserlaw06.SignTaken", spec := "signTaken", inPlace := ["math/bits.Add64", "math/bits.Sub64"], unfollowed := true, recurses := true, apart := false, narrowed := true }
def SignTakenUptoSaid : Prop := signTakenUptoRow.holds Try.pinned (OpenSpec.upto signTakenSpec)

/-- 'engrosserlaw06.SignSeeds', WHERE WHAT IT READS IS OF BULK AT MOST 1048576: true; the input reads as it did. -/
def signSeedsUptoRow : OpenClaim := { program := "ytpdpafehfloelaa", sum := "45af8202e78b635a33ad0727b0634f83a1fe4e9b2402ae42f0b2229a5fdaf696", func := "engrosser/engrosserlaw06.SignSeeds", spec := "signSeeds", inPlace := ["math/bits.Add64", "math/bits.Sub64"], unfollowed := true, recurses := true, apart := false, narrowed := true }
def SignSeedsUptoSaid : Prop := signSeedsUptoRow.holds Try.pinned (OpenSpec.upto signSeedsSpec)

/-- 'engrosserlaw06.SignHalves', WHERE WHAT IT READS IS OF BULK AT MOST 1048576: true; the input reads as it did. -/
def signHalvesUptoRow : OpenClaim := { program := "ytpdpafehfloelaa", sum := "45af8202e78b635a33ad0727b0634f83a1fe4e9b2402ae42f0b2229a5fdaf696", func := "engrosser/engrosserlaw06.SignHalves", spec := "signHalves", inPlace := ["math/bits.Add64", "math/bits.Sub64"], unfollowed := true, recurses := true, apart := false, narrowed := true }
def SignHalvesUptoSaid : Prop := signHalvesUptoRow.holds Try.pinned (OpenSpec.upto signHalvesSpec)

end Rows
end Go.Proofs.Ytpdpafehfloelaa
