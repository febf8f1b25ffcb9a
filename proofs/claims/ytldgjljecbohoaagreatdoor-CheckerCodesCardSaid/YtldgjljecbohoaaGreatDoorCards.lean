/-
  DERIVED. GIVEN WITH THE SEED: THE CARDS: each row of YtldgjljecbohoaaGreatDoorRows.lean that lists a variable, with what it lists TIED to the program's text (the seventh form; the later family's looks); each row that meets fmt, with fmt's text TOLD by the authors' own Lean function (tested against real Go, not proved from fmt's source: count such statements apart). THE CARD IS WHAT COUNTS. Prove the row's statement (the work); the ties are given (YtldgjljecbohoaaGreatDoorTie.lean); close each card by the builder's one call (the guide's Derived/Test/ToyasCard.lean, 'card_holds'). Laid BY PROGRAM, IN A SANDBOX (cutbox-door.mjs). By AI agents, Wed Nov 11 2026. No macro, syntax, notation, axiom, sorry.
-/
import Derived.Test.YtldgjljecbohoaaGreatDoorRows
import GoSem.ClaimSeven
namespace Go.Proofs.YtldgjljecbohoaaGreatDoor
namespace Rows

/-- THE TIED CARD OF 'groovelaw59.CheckerCodes'. -/
def checkerCodesCard : Claim7 := { stood := { row := checkerCodesRow, standIns := [], harness := (true, "2a01350dead0b9c13c320f5d2a0d692592feb372b766fa6a3b5ef269ee30d2a6"), looks := false }, kinds := [], alts := [], laidByText := true, laidKinds := [.data, .data], laidTests := true, laidLooks := .later }
def CheckerCodesCardSaid : Prop := Claim7.holds Tryz.pinned (.plain (OpenSpec.ofChange checkerCodesSpec)) checkerCodesCard

/-- THE SECOND FORM's CARD OF 'groovelaw59.CheckerCodes'. -/
def checkerCodesUptoCard : Claim7 := { stood := { row := checkerCodesUptoRow, standIns := [], harness := (true, "2a01350dead0b9c13c320f5d2a0d692592feb372b766fa6a3b5ef269ee30d2a6"), looks := false }, kinds := [], alts := [], laidByText := true, laidKinds := [.data, .data], laidTests := true, laidLooks := .later }
def CheckerCodesUptoCardSaid : Prop := Claim7.holds Tryz.pinned (.plain (OpenSpec.upto checkerCodesSpec)) checkerCodesUptoCard
end Rows
end Go.Proofs.YtldgjljecbohoaaGreatDoor
