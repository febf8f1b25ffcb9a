/-
  DERIVED. GIVEN WITH THE SEED: THE CARDS: each row of YtpppbkdbpbpinaaGreatDoorRows.lean that lists a variable, with what it lists TIED to the program's text (the seventh form; the later family's looks); each row that meets fmt, with fmt's text TOLD by the authors' own Lean function (tested against real Go, not proved from fmt's source: count such statements apart). THE CARD IS WHAT COUNTS. Prove the row's statement (the work); the ties are given (YtpppbkdbpbpinaaGreatDoorTie.lean); close each card by the builder's one call (the guide's Derived/Test/ToyasCard.lean, 'card_holds'). Laid BY PROGRAM, IN A SANDBOX (cutbox-door.mjs). By AI agents, Wed Nov 11 2026. No macro, syntax, notation, axiom, sorry.
-/
import Derived.Test.YtpppbkdbpbpinaaGreatDoorRows
import GoSem.ClaimSeven
namespace Go.Proofs.YtpppbkdbpbpinaaGreatDoor
namespace Rows

/-- THE TIED CARD OF 'groovelaw59.CheckerWords'. -/
def checkerWordsCard : Claim7 := { stood := { row := checkerWordsRow, standIns := [], harness := (true, "6dcf565c8f14adc0a579d16267548a2e43fc837659b020f2a047f00ff1571bfb"), looks := false }, kinds := [], alts := [], laidByText := true, laidKinds := [.data, .data], laidTests := true, laidLooks := .later }
def CheckerWordsCardSaid : Prop := Claim7.holds Tryz.pinned (.plain (OpenSpec.ofChange checkerWordsSpec)) checkerWordsCard

/-- THE SECOND FORM's CARD OF 'groovelaw59.CheckerWords'. -/
def checkerWordsUptoCard : Claim7 := { stood := { row := checkerWordsUptoRow, standIns := [], harness := (true, "6dcf565c8f14adc0a579d16267548a2e43fc837659b020f2a047f00ff1571bfb"), looks := false }, kinds := [], alts := [], laidByText := true, laidKinds := [.data, .data], laidTests := true, laidLooks := .later }
def CheckerWordsUptoCardSaid : Prop := Claim7.holds Tryz.pinned (.plain (OpenSpec.upto checkerWordsSpec)) checkerWordsUptoCard
end Rows
end Go.Proofs.YtpppbkdbpbpinaaGreatDoor
