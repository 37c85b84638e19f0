/-
  DERIVED. GIVEN WITH THE SEED: THE CARDS: each row of YtkomlijabeedpaaDoorRows.lean that lists a variable, with what it lists TIED to the program's text (the seventh form; the later family's looks); each row that meets fmt, with fmt's text TOLD by the authors' own Lean function (tested against real Go, not proved from fmt's source: count such statements apart). THE CARD IS WHAT COUNTS. Prove the row's statement (the work); the ties are given (YtkomlijabeedpaaDoorTie.lean); close each card by the builder's one call (the guide's Derived/Test/ToyasCard.lean, 'card_holds'). Laid BY PROGRAM, IN A SANDBOX (cutbox-door.mjs). By AI agents, Wed Nov 11 2026. No macro, syntax, notation, axiom, sorry.
-/
import Derived.Test.YtkomlijabeedpaaDoorRows
import GoSem.ClaimSeven
namespace Go.Proofs.YtkomlijabeedpaaDoor
namespace Rows

/-- THE TIED CARD OF 'engrosserlaw07.B64Joins'. -/
def b64JoinsCard : Claim7 := { stood := { row := b64JoinsRow, standIns := [], harness := (true, "d8b8390e05521ebe4dedde9a2e888d68f7eaf1fa642899a5e58f3d20d51cf15e"), looks := false }, kinds := [], alts := [], laidByText := true, laidKinds := [.data, .pinned], laidTests := true, laidLooks := .later }
def B64JoinsCardSaid : Prop := Claim7.holds Tryd.pinned (.plain (OpenSpec.ofChange b64JoinsSpec)) b64JoinsCard

/-- THE TIED CARD OF 'engrosserlaw07.B64Digits'. -/
def b64DigitsCard : Claim7 := { stood := { row := b64DigitsRow, standIns := [], harness := (true, "d8b8390e05521ebe4dedde9a2e888d68f7eaf1fa642899a5e58f3d20d51cf15e"), looks := false }, kinds := [], alts := [], laidByText := true, laidKinds := [.data, .pinned], laidTests := true, laidLooks := .later }
def B64DigitsCardSaid : Prop := Claim7.holds Tryd.pinned (.plain (OpenSpec.ofChange b64DigitsSpec)) b64DigitsCard

/-- THE TIED CARD OF 'engrosserlaw07.B64Texts'. -/
def b64TextsCard : Claim7 := { stood := { row := b64TextsRow, standIns := [], harness := (true, "d8b8390e05521ebe4dedde9a2e888d68f7eaf1fa642899a5e58f3d20d51cf15e"), looks := false }, kinds := [], alts := [], laidByText := true, laidKinds := [.data, .pinned], laidTests := true, laidLooks := .later }
def B64TextsCardSaid : Prop := Claim7.holds Tryd.pinned (.plain (OpenSpec.ofChange b64TextsSpec)) b64TextsCard

/-- THE TIED CARD OF 'engrosserlaw07.B64Numbers'. -/
def b64NumbersCard : Claim7 := { stood := { row := b64NumbersRow, standIns := [], harness := (true, "d8b8390e05521ebe4dedde9a2e888d68f7eaf1fa642899a5e58f3d20d51cf15e"), looks := false }, kinds := [], alts := [], laidByText := true, laidKinds := [.data, .pinned], laidTests := true, laidLooks := .later }
def B64NumbersCardSaid : Prop := Claim7.holds Tryd.pinned (.plain (OpenSpec.ofChange b64NumbersSpec)) b64NumbersCard

/-- THE TIED CARD OF 'engrosserlaw07.B64Back'. -/
def b64BackCard : Claim7 := { stood := { row := b64BackRow, standIns := [], harness := (true, "d8b8390e05521ebe4dedde9a2e888d68f7eaf1fa642899a5e58f3d20d51cf15e"), looks := false }, kinds := [], alts := [], laidByText := true, laidKinds := [.data, .pinned], laidTests := true, laidLooks := .later }
def B64BackCardSaid : Prop := Claim7.holds Tryd.pinned (.plain (OpenSpec.ofChange b64BackSpec)) b64BackCard

/-- THE TIED CARD OF 'engrosserlaw07.B64Counts'. -/
def b64CountsCard : Claim7 := { stood := { row := b64CountsRow, standIns := [], harness := (true, "d8b8390e05521ebe4dedde9a2e888d68f7eaf1fa642899a5e58f3d20d51cf15e"), looks := false }, kinds := [], alts := [], laidByText := true, laidKinds := [.data, .pinned], laidTests := true, laidLooks := .later }
def B64CountsCardSaid : Prop := Claim7.holds Tryd.pinned (.plain (OpenSpec.ofChange b64CountsSpec)) b64CountsCard

/-- THE SECOND FORM's CARD OF 'engrosserlaw07.B64Joins'. -/
def b64JoinsUptoCard : Claim7 := { stood := { row := b64JoinsUptoRow, standIns := [], harness := (true, "d8b8390e05521ebe4dedde9a2e888d68f7eaf1fa642899a5e58f3d20d51cf15e"), looks := false }, kinds := [], alts := [], laidByText := true, laidKinds := [.data, .pinned], laidTests := true, laidLooks := .later }
def B64JoinsUptoCardSaid : Prop := Claim7.holds Tryd.pinned (.plain (OpenSpec.upto b64JoinsSpec)) b64JoinsUptoCard

/-- THE SECOND FORM's CARD OF 'engrosserlaw07.B64Digits'. -/
def b64DigitsUptoCard : Claim7 := { stood := { row := b64DigitsUptoRow, standIns := [], harness := (true, "d8b8390e05521ebe4dedde9a2e888d68f7eaf1fa642899a5e58f3d20d51cf15e"), looks := false }, kinds := [], alts := [], laidByText := true, laidKinds := [.data, .pinned], laidTests := true, laidLooks := .later }
def B64DigitsUptoCardSaid : Prop := Claim7.holds Tryd.pinned (.plain (OpenSpec.upto b64DigitsSpec)) b64DigitsUptoCard

/-- THE SECOND FORM's CARD OF 'engrosserlaw07.B64Texts'. -/
def b64TextsUptoCard : Claim7 := { stood := { row := b64TextsUptoRow, standIns := [], harness := (true, "d8b8390e05521ebe4dedde9a2e888d68f7eaf1fa642899a5e58f3d20d51cf15e"), looks := false }, kinds := [], alts := [], laidByText := true, laidKinds := [.data, .pinned], laidTests := true, laidLooks := .later }
def B64TextsUptoCardSaid : Prop := Claim7.holds Tryd.pinned (.plain (OpenSpec.upto b64TextsSpec)) b64TextsUptoCard

/-- THE SECOND FORM's CARD OF 'engrosserlaw07.B64Numbers'. -/
def b64NumbersUptoCard : Claim7 := { stood := { row := b64NumbersUptoRow, standIns := [], harness := (true, "d8b8390e05521ebe4dedde9a2e888d68f7eaf1fa642899a5e58f3d20d51cf15e"), looks := false }, kinds := [], alts := [], laidByText := true, laidKinds := [.data, .pinned], laidTests := true, laidLooks := .later }
def B64NumbersUptoCardSaid : Prop := Claim7.holds Tryd.pinned (.plain (OpenSpec.upto b64NumbersSpec)) b64NumbersUptoCard

/-- THE SECOND FORM's CARD OF 'engrosserlaw07.B64Back'. -/
def b64BackUptoCard : Claim7 := { stood := { row := b64BackUptoRow, standIns := [], harness := (true, "d8b8390e05521ebe4dedde9a2e888d68f7eaf1fa642899a5e58f3d20d51cf15e"), looks := false }, kinds := [], alts := [], laidByText := true, laidKinds := [.data, .pinned], laidTests := true, laidLooks := .later }
def B64BackUptoCardSaid : Prop := Claim7.holds Tryd.pinned (.plain (OpenSpec.upto b64BackSpec)) b64BackUptoCard

/-- THE SECOND FORM's CARD OF 'engrosserlaw07.B64Counts'. -/
def b64CountsUptoCard : Claim7 := { stood := { row := b64CountsUptoRow, standIns := [], harness := (true, "d8b8390e05521ebe4dedde9a2e888d68f7eaf1fa642899a5e58f3d20d51cf15e"), looks := false }, kinds := [], alts := [], laidByText := true, laidKinds := [.data, .pinned], laidTests := true, laidLooks := .later }
def B64CountsUptoCardSaid : Prop := Claim7.holds Tryd.pinned (.plain (OpenSpec.upto b64CountsSpec)) b64CountsUptoCard
end Rows
end Go.Proofs.YtkomlijabeedpaaDoor
