/-
  DERIVED. GIVEN WITH THE SEED: THE CARDS: each row of YtgbgpibaincheaaDoorRows.lean that lists a variable, with what it lists TIED to the program's text (the seventh form; the later family's looks); each row that meets fmt, with fmt's text TOLD by the authors' own Lean function (tested against real Go, not proved from fmt's source: count such statements apart). THE CARD IS WHAT COUNTS. Prove the row's statement (the work); the ties are given (YtgbgpibaincheaaDoorTie.lean); close each card by the builder's one call (the guide's Derived/Test/ToyasCard.lean, 'card_holds'). Laid BY PROGRAM, IN A SANDBOX (cutbox-door.mjs). By AI agents, Wed Nov 11 2026. No macro, syntax, notation, axiom, sorry.
-/
import Derived.Test.YtgbgpibaincheaaDoorRows
import GoSem.ClaimSeven
namespace Go.Proofs.YtgbgpibaincheaaDoor
namespace Rows

/-- THE TIED CARD OF 'laws.FnExactZerosBelow'. -/
def fnExactZerosBelowCard : Claim7 := { stood := { row := fnExactZerosBelowRow, standIns := [], harness := (true, "5877251437a1645d23c3dd0007084832e04615de2f8c9e52854397626ede2bc1"), looks := false }, kinds := [], alts := [], laidByText := true, laidKinds := [.data, .data], laidTests := true, laidLooks := .later }
def FnExactZerosBelowCardSaid : Prop := Claim7.holds Tryd.pinned (.plain (OpenSpec.ofChange fnExactZerosBelowSpec)) fnExactZerosBelowCard

/-- THE TIED CARD OF 'laws.FnZerosBelow'. -/
def fnZerosBelowCard : Claim7 := { stood := { row := fnZerosBelowRow, standIns := [], harness := (true, "5877251437a1645d23c3dd0007084832e04615de2f8c9e52854397626ede2bc1"), looks := false }, kinds := [], alts := [], laidByText := true, laidKinds := [.data, .data], laidTests := true, laidLooks := .later }
def FnZerosBelowCardSaid : Prop := Claim7.holds Tryd.pinned (.plain (OpenSpec.ofChange fnZerosBelowSpec)) fnZerosBelowCard

/-- THE TIED CARD OF 'laws.FnLowestOne'. -/
def fnLowestOneCard : Claim7 := { stood := { row := fnLowestOneRow, standIns := [], harness := (true, "5877251437a1645d23c3dd0007084832e04615de2f8c9e52854397626ede2bc1"), looks := false }, kinds := [], alts := [], laidByText := true, laidKinds := [.data, .data], laidTests := true, laidLooks := .later }
def FnLowestOneCardSaid : Prop := Claim7.holds Tryd.pinned (.plain (OpenSpec.ofChange fnLowestOneSpec)) fnLowestOneCard

/-- THE SECOND FORM's CARD OF 'laws.FnExactZerosBelow'. -/
def fnExactZerosBelowUptoCard : Claim7 := { stood := { row := fnExactZerosBelowUptoRow, standIns := [], harness := (true, "5877251437a1645d23c3dd0007084832e04615de2f8c9e52854397626ede2bc1"), looks := false }, kinds := [], alts := [], laidByText := true, laidKinds := [.data, .data], laidTests := true, laidLooks := .later }
def FnExactZerosBelowUptoCardSaid : Prop := Claim7.holds Tryd.pinned (.plain (OpenSpec.upto fnExactZerosBelowSpec)) fnExactZerosBelowUptoCard

/-- THE SECOND FORM's CARD OF 'laws.FnZerosBelow'. -/
def fnZerosBelowUptoCard : Claim7 := { stood := { row := fnZerosBelowUptoRow, standIns := [], harness := (true, "5877251437a1645d23c3dd0007084832e04615de2f8c9e52854397626ede2bc1"), looks := false }, kinds := [], alts := [], laidByText := true, laidKinds := [.data, .data], laidTests := true, laidLooks := .later }
def FnZerosBelowUptoCardSaid : Prop := Claim7.holds Tryd.pinned (.plain (OpenSpec.upto fnZerosBelowSpec)) fnZerosBelowUptoCard

/-- THE SECOND FORM's CARD OF 'laws.FnLowestOne'. -/
def fnLowestOneUptoCard : Claim7 := { stood := { row := fnLowestOneUptoRow, standIns := [], harness := (true, "5877251437a1645d23c3dd0007084832e04615de2f8c9e52854397626ede2bc1"), looks := false }, kinds := [], alts := [], laidByText := true, laidKinds := [.data, .data], laidTests := true, laidLooks := .later }
def FnLowestOneUptoCardSaid : Prop := Claim7.holds Tryd.pinned (.plain (OpenSpec.upto fnLowestOneSpec)) fnLowestOneUptoCard
end Rows
end Go.Proofs.YtgbgpibaincheaaDoor
