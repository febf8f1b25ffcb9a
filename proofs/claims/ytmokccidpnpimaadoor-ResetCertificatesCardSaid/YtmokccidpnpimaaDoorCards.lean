/-
  DERIVED. GIVEN WITH THE SEED: THE CARDS: each row of YtmokccidpnpimaaDoorRows.lean that lists a variable, with what it lists TIED to the program's text (the seventh form; the later family's looks); each row that meets fmt, with fmt's text TOLD by the authors' own Lean function (tested against real Go, not proved from fmt's source: count such statements apart). THE CARD IS WHAT COUNTS. Prove the row's statement (the work); the ties are given (YtmokccidpnpimaaDoorTie.lean); close each card by the builder's one call (the guide's Derived/Test/ToyasCard.lean, 'card_holds'). Laid BY PROGRAM, IN A SANDBOX (cutbox-door.mjs). By AI agents, Wed Nov 11 2026. No macro, syntax, notation, axiom, sorry.
-/
import Derived.Test.YtmokccidpnpimaaDoorRows
import GoSem.ClaimSeven
namespace Go.Proofs.YtmokccidpnpimaaDoor
namespace Rows

/-- THE TIED CARD OF 'groovelaw44.ResetCertificates'. -/
def resetCertificatesCard : Claim7 := { stood := { row := resetCertificatesRow, standIns := [], harness := (true, "56ca817c8ec80e66981849e04d6adb46dc9fd0b5cb049c2371bf593b803cdd6f"), looks := false }, kinds := [], alts := [], laidByText := true, laidKinds := [.data, .data], laidTests := true, laidLooks := .later }
def ResetCertificatesCardSaid : Prop := Claim7.holds Tryd.pinned (.plain (OpenSpec.ofChange resetCertificatesSpec)) resetCertificatesCard

/-- THE TIED CARD OF 'groovelaw44.ResetLayers'. -/
def resetLayersCard : Claim7 := { stood := { row := resetLayersRow, standIns := [], harness := (true, "56ca817c8ec80e66981849e04d6adb46dc9fd0b5cb049c2371bf593b803cdd6f"), looks := false }, kinds := [], alts := [], laidByText := true, laidKinds := [.data, .data], laidTests := true, laidLooks := .later }
def ResetLayersCardSaid : Prop := Claim7.holds Tryd.pinned (.plain (OpenSpec.ofChange resetLayersSpec)) resetLayersCard

/-- THE TIED CARD OF 'groovelaw44.ResetProves'. -/
def resetProvesCard : Claim7 := { stood := { row := resetProvesRow, standIns := [], harness := (true, "56ca817c8ec80e66981849e04d6adb46dc9fd0b5cb049c2371bf593b803cdd6f"), looks := false }, kinds := [], alts := [], laidByText := true, laidKinds := [.data, .data], laidTests := true, laidLooks := .later }
def ResetProvesCardSaid : Prop := Claim7.holds Tryd.pinned (.plain (OpenSpec.ofChange resetProvesSpec)) resetProvesCard

/-- THE TIED CARD OF 'groovelaw44.ResetShortest'. -/
def resetShortestCard : Claim7 := { stood := { row := resetShortestRow, standIns := [], harness := (true, "56ca817c8ec80e66981849e04d6adb46dc9fd0b5cb049c2371bf593b803cdd6f"), looks := false }, kinds := [], alts := [], laidByText := true, laidKinds := [.data, .data], laidTests := true, laidLooks := .later }
def ResetShortestCardSaid : Prop := Claim7.holds Tryd.pinned (.plain (OpenSpec.ofChange resetShortestSpec)) resetShortestCard

/-- THE TIED CARD OF 'groovelaw44.ResetGreedy'. -/
def resetGreedyCard : Claim7 := { stood := { row := resetGreedyRow, standIns := [], harness := (true, "56ca817c8ec80e66981849e04d6adb46dc9fd0b5cb049c2371bf593b803cdd6f"), looks := false }, kinds := [], alts := [], laidByText := true, laidKinds := [.data, .data], laidTests := true, laidLooks := .later }
def ResetGreedyCardSaid : Prop := Claim7.holds Tryd.pinned (.plain (OpenSpec.ofChange resetGreedySpec)) resetGreedyCard

/-- THE TIED CARD OF 'groovelaw44.ResetApplies'. -/
def resetAppliesCard : Claim7 := { stood := { row := resetAppliesRow, standIns := [], harness := (true, "56ca817c8ec80e66981849e04d6adb46dc9fd0b5cb049c2371bf593b803cdd6f"), looks := false }, kinds := [], alts := [], laidByText := true, laidKinds := [.data, .data], laidTests := true, laidLooks := .later }
def ResetAppliesCardSaid : Prop := Claim7.holds Tryd.pinned (.plain (OpenSpec.ofChange resetAppliesSpec)) resetAppliesCard

/-- THE TIED CARD OF 'groovelaw44.ResetExtended'. -/
def resetExtendedCard : Claim7 := { stood := { row := resetExtendedRow, standIns := [], harness := (true, "56ca817c8ec80e66981849e04d6adb46dc9fd0b5cb049c2371bf593b803cdd6f"), looks := false }, kinds := [], alts := [], laidByText := true, laidKinds := [.data, .data], laidTests := true, laidLooks := .later }
def ResetExtendedCardSaid : Prop := Claim7.holds Tryd.pinned (.plain (OpenSpec.ofChange resetExtendedSpec)) resetExtendedCard

/-- THE TIED CARD OF 'groovelaw44.ResetWords'. -/
def resetWordsCard : Claim7 := { stood := { row := resetWordsRow, standIns := [], harness := (true, "56ca817c8ec80e66981849e04d6adb46dc9fd0b5cb049c2371bf593b803cdd6f"), looks := false }, kinds := [], alts := [], laidByText := true, laidKinds := [.data, .data], laidTests := true, laidLooks := .later }
def ResetWordsCardSaid : Prop := Claim7.holds Tryd.pinned (.plain (OpenSpec.ofChange resetWordsSpec)) resetWordsCard

/-- THE SECOND FORM's CARD OF 'groovelaw44.ResetCertificates'. -/
def resetCertificatesUptoCard : Claim7 := { stood := { row := resetCertificatesUptoRow, standIns := [], harness := (true, "56ca817c8ec80e66981849e04d6adb46dc9fd0b5cb049c2371bf593b803cdd6f"), looks := false }, kinds := [], alts := [], laidByText := true, laidKinds := [.data, .data], laidTests := true, laidLooks := .later }
def ResetCertificatesUptoCardSaid : Prop := Claim7.holds Tryd.pinned (.plain (OpenSpec.upto resetCertificatesSpec)) resetCertificatesUptoCard

/-- THE SECOND FORM's CARD OF 'groovelaw44.ResetLayers'. -/
def resetLayersUptoCard : Claim7 := { stood := { row := resetLayersUptoRow, standIns := [], harness := (true, "56ca817c8ec80e66981849e04d6adb46dc9fd0b5cb049c2371bf593b803cdd6f"), looks := false }, kinds := [], alts := [], laidByText := true, laidKinds := [.data, .data], laidTests := true, laidLooks := .later }
def ResetLayersUptoCardSaid : Prop := Claim7.holds Tryd.pinned (.plain (OpenSpec.upto resetLayersSpec)) resetLayersUptoCard

/-- THE SECOND FORM's CARD OF 'groovelaw44.ResetProves'. -/
def resetProvesUptoCard : Claim7 := { stood := { row := resetProvesUptoRow, standIns := [], harness := (true, "56ca817c8ec80e66981849e04d6adb46dc9fd0b5cb049c2371bf593b803cdd6f"), looks := false }, kinds := [], alts := [], laidByText := true, laidKinds := [.data, .data], laidTests := true, laidLooks := .later }
def ResetProvesUptoCardSaid : Prop := Claim7.holds Tryd.pinned (.plain (OpenSpec.upto resetProvesSpec)) resetProvesUptoCard

/-- THE SECOND FORM's CARD OF 'groovelaw44.ResetShortest'. -/
def resetShortestUptoCard : Claim7 := { stood := { row := resetShortestUptoRow, standIns := [], harness := (true, "56ca817c8ec80e66981849e04d6adb46dc9fd0b5cb049c2371bf593b803cdd6f"), looks := false }, kinds := [], alts := [], laidByText := true, laidKinds := [.data, .data], laidTests := true, laidLooks := .later }
def ResetShortestUptoCardSaid : Prop := Claim7.holds Tryd.pinned (.plain (OpenSpec.upto resetShortestSpec)) resetShortestUptoCard

/-- THE SECOND FORM's CARD OF 'groovelaw44.ResetGreedy'. -/
def resetGreedyUptoCard : Claim7 := { stood := { row := resetGreedyUptoRow, standIns := [], harness := (true, "56ca817c8ec80e66981849e04d6adb46dc9fd0b5cb049c2371bf593b803cdd6f"), looks := false }, kinds := [], alts := [], laidByText := true, laidKinds := [.data, .data], laidTests := true, laidLooks := .later }
def ResetGreedyUptoCardSaid : Prop := Claim7.holds Tryd.pinned (.plain (OpenSpec.upto resetGreedySpec)) resetGreedyUptoCard

/-- THE SECOND FORM's CARD OF 'groovelaw44.ResetApplies'. -/
def resetAppliesUptoCard : Claim7 := { stood := { row := resetAppliesUptoRow, standIns := [], harness := (true, "56ca817c8ec80e66981849e04d6adb46dc9fd0b5cb049c2371bf593b803cdd6f"), looks := false }, kinds := [], alts := [], laidByText := true, laidKinds := [.data, .data], laidTests := true, laidLooks := .later }
def ResetAppliesUptoCardSaid : Prop := Claim7.holds Tryd.pinned (.plain (OpenSpec.upto resetAppliesSpec)) resetAppliesUptoCard

/-- THE SECOND FORM's CARD OF 'groovelaw44.ResetExtended'. -/
def resetExtendedUptoCard : Claim7 := { stood := { row := resetExtendedUptoRow, standIns := [], harness := (true, "56ca817c8ec80e66981849e04d6adb46dc9fd0b5cb049c2371bf593b803cdd6f"), looks := false }, kinds := [], alts := [], laidByText := true, laidKinds := [.data, .data], laidTests := true, laidLooks := .later }
def ResetExtendedUptoCardSaid : Prop := Claim7.holds Tryd.pinned (.plain (OpenSpec.upto resetExtendedSpec)) resetExtendedUptoCard

/-- THE SECOND FORM's CARD OF 'groovelaw44.ResetWords'. -/
def resetWordsUptoCard : Claim7 := { stood := { row := resetWordsUptoRow, standIns := [], harness := (true, "56ca817c8ec80e66981849e04d6adb46dc9fd0b5cb049c2371bf593b803cdd6f"), looks := false }, kinds := [], alts := [], laidByText := true, laidKinds := [.data, .data], laidTests := true, laidLooks := .later }
def ResetWordsUptoCardSaid : Prop := Claim7.holds Tryd.pinned (.plain (OpenSpec.upto resetWordsSpec)) resetWordsUptoCard
end Rows
end Go.Proofs.YtmokccidpnpimaaDoor
