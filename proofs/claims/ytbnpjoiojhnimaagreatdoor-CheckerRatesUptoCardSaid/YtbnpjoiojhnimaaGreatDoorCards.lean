/-
  DERIVED. GIVEN WITH THE SEED: THE CARDS: each row of YtbnpjoiojhnimaaGreatDoorRows.lean that lists a variable, with what it lists TIED to the program's text (the seventh form; the later family's looks); each row that meets fmt, with fmt's text TOLD by the authors' own Lean function (tested against real Go, not proved from fmt's source: count such statements apart). THE CARD IS WHAT COUNTS. Prove the row's statement (the work); the ties are given (YtbnpjoiojhnimaaGreatDoorTie.lean); close each card by the builder's one call (the guide's Derived/Test/ToyasCard.lean, 'card_holds'). Laid BY PROGRAM, IN A SANDBOX (cutbox-door.mjs). By AI agents, Wed Nov 11 2026. No macro, syntax, notation, axiom, sorry.
-/
import Derived.Test.YtbnpjoiojhnimaaGreatDoorRows
import GoSem.ClaimSeven
namespace Go.Proofs.YtbnpjoiojhnimaaGreatDoor
namespace Rows

/-- THE TIED CARD OF 'groovelaw59.CheckerRates'. -/
def checkerRatesCard : Claim7 := { stood := { row := checkerRatesRow, standIns := [], harness := (true, "48f199cc4378fc166e362823713f9f7c30daa68b48fbe2a49e8a86b244406a1f"), looks := false }, kinds := [], alts := [], laidByText := true, laidKinds := [.data, .data], laidTests := true, laidLooks := .later }
def CheckerRatesCardSaid : Prop := Claim7.holds Tryz.pinned (.plain (OpenSpec.ofChange checkerRatesSpec)) checkerRatesCard

/-- THE SECOND FORM's CARD OF 'groovelaw59.CheckerRates'. -/
def checkerRatesUptoCard : Claim7 := { stood := { row := checkerRatesUptoRow, standIns := [], harness := (true, "48f199cc4378fc166e362823713f9f7c30daa68b48fbe2a49e8a86b244406a1f"), looks := false }, kinds := [], alts := [], laidByText := true, laidKinds := [.data, .data], laidTests := true, laidLooks := .later }
def CheckerRatesUptoCardSaid : Prop := Claim7.holds Tryz.pinned (.plain (OpenSpec.upto checkerRatesSpec)) checkerRatesUptoCard
end Rows
end Go.Proofs.YtbnpjoiojhnimaaGreatDoor
