/-
  NARROWER THAN 'FOR EVERY INPUT', by the rows' own cells (each row's printed sentence says how): ResetCertificates: laid · ResetLayers: laid · ResetProves: laid · ResetShortest: laid · ResetGreedy: laid · ResetApplies: laid · ResetExtended: laid · ResetWords: laid.
  DERIVED. THE GIVEN ROWS OF THIS SEAT. 8 by the template 'for every input the law returns true; each argument reads behind the call as it read before'; 0 by the template 'total and deterministic' (their statements: YtmokccidpnpimaaDoorTotals.lean).
  GIVEN WITH THE SEED: the statements are not yours to turn. If you find one false, say at which input.
  Laid BY PROGRAM, IN A SANDBOX (cutbox-rows.mjs): the forced cells as the released guide's own fill.sh prints them over the translation 9f6e1c4ad4cb8ac4… (all of the seat's roots in one cut). By AI agents, Wed Nov 11 2026. No macro, syntax, notation, axiom, sorry.
-/
import Derived.Test.YtmokccidpnpimaaDoorChecked
import GoSem.Claim
import GoSem.ClaimJoined
import GoSem.ClaimMapViews
import Derived.JoinedTies
import Derived.KernelRfl
namespace Go.Proofs.YtmokccidpnpimaaDoor
/- THE CELL 'sum', in the pinned program and in every row, IS THE sha256 OF THE DUMP (.gsa) THAT YtmokccidpnpimaaDoorProg.lean LOADS. Nothing in Lean hashes anything: it is a label: what it is worth is what the hold of that sum in a sandbox is worth. -/
noncomputable def Tryd.pinned : Pinned := { name := "ytmokccidpnpimaadoor", sum := "9f6e1c4ad4cb8ac44aa00e15bbee999a5cdf7b51eadbb757b4311536eff4902c", checked := Tryd.checked }
namespace Rows
def none {H : Type} : Left H := { results := [], args := [] }

/- WHAT THE LISTED PACKAGE-LEVEL VARIABLES READ AS WHEN THE CALL BEGINS. Each datum BY PROGRAM (the guide's laid-datum.mjs) off the statement by which the dump's own 'gosem.cut.vars' lays the variable. In a bare row this is a premise. The card (YtmokccidpnpimaaDoorCards.lean) ties it to the program's text. -/
def laid_math_bits_deBruijn32tab {H : Type} : DataW H := .agg [.lit (.int .u8 0), .lit (.int .u8 1), .lit (.int .u8 28), .lit (.int .u8 2), .lit (.int .u8 29), .lit (.int .u8 14), .lit (.int .u8 24), .lit (.int .u8 3), .lit (.int .u8 30), .lit (.int .u8 22), .lit (.int .u8 20), .lit (.int .u8 15), .lit (.int .u8 25), .lit (.int .u8 17), .lit (.int .u8 4), .lit (.int .u8 8), .lit (.int .u8 31), .lit (.int .u8 27), .lit (.int .u8 13), .lit (.int .u8 23), .lit (.int .u8 21), .lit (.int .u8 19), .lit (.int .u8 16), .lit (.int .u8 7), .lit (.int .u8 26), .lit (.int .u8 12), .lit (.int .u8 18), .lit (.int .u8 6), .lit (.int .u8 11), .lit (.int .u8 5), .lit (.int .u8 10), .lit (.int .u8 9)]
def laid_math_bits_deBruijn64tab {H : Type} : DataW H := .agg [.lit (.int .u8 0), .lit (.int .u8 1), .lit (.int .u8 56), .lit (.int .u8 2), .lit (.int .u8 57), .lit (.int .u8 49), .lit (.int .u8 28), .lit (.int .u8 3), .lit (.int .u8 61), .lit (.int .u8 58), .lit (.int .u8 42), .lit (.int .u8 50), .lit (.int .u8 38), .lit (.int .u8 29), .lit (.int .u8 17), .lit (.int .u8 4), .lit (.int .u8 62), .lit (.int .u8 47), .lit (.int .u8 59), .lit (.int .u8 36), .lit (.int .u8 45), .lit (.int .u8 43), .lit (.int .u8 51), .lit (.int .u8 22), .lit (.int .u8 53), .lit (.int .u8 39), .lit (.int .u8 33), .lit (.int .u8 30), .lit (.int .u8 24), .lit (.int .u8 18), .lit (.int .u8 12), .lit (.int .u8 5), .lit (.int .u8 63), .lit (.int .u8 55), .lit (.int .u8 48), .lit (.int .u8 27), .lit (.int .u8 60), .lit (.int .u8 41), .lit (.int .u8 37), .lit (.int .u8 16), .lit (.int .u8 46), .lit (.int .u8 35), .lit (.int .u8 44), .lit (.int .u8 21), .lit (.int .u8 52), .lit (.int .u8 32), .lit (.int .u8 23), .lit (.int .u8 11), .lit (.int .u8 54), .lit (.int .u8 26), .lit (.int .u8 40), .lit (.int .u8 15), .lit (.int .u8 34), .lit (.int .u8 20), .lit (.int .u8 31), .lit (.int .u8 10), .lit (.int .u8 25), .lit (.int .u8 14), .lit (.int .u8 19), .lit (.int .u8 9), .lit (.int .u8 13), .lit (.int .u8 8), .lit (.int .u8 7), .lit (.int .u8 6)]

/-- 'groovelaw44.ResetCertificates': WHATEVER THE INPUT: true; the input reads as it did. -/
def resetCertificatesSpec : ChangeSpec := { name := "resetCertificates", fn := fun _ => fun
  | [d1, d2, d3] => { results := [.lit (.bool true)], args := [d1, d2, d3] }
  | _ => none }
def resetCertificatesRow : OpenClaim := { program := "ytmokccidpnpimaadoor", sum := "9f6e1c4ad4cb8ac44aa00e15bbee999a5cdf7b51eadbb757b4311536eff4902c", func := "groove/groovelaw44.ResetCertificates", spec := "resetCertificates", inPlace := ["internal/bytealg.IndexByteString"], unfollowed := true, recurses := true, named := ["math/bits.deBruijn32tab", "math/bits.deBruijn64tab"], apart := false, laid := [("math/bits.deBruijn32tab", laid_math_bits_deBruijn32tab), ("math/bits.deBruijn64tab", laid_math_bits_deBruijn64tab)] }
def ResetCertificatesSaid : Prop := resetCertificatesRow.holds Tryd.pinned (OpenSpec.ofChange resetCertificatesSpec)

/-- ITS FALSE NEIGHBOUR: 'it returns false'. Refute it at one input. -/
def resetCertificatesWrong : ChangeSpec := { name := "resetCertificates", fn := fun _ => fun
  | [d1, d2, d3] => { results := [.lit (.bool false)], args := [d1, d2, d3] }
  | _ => none }
def ResetCertificatesWrongFalsely : Prop := resetCertificatesRow.holds Tryd.pinned (OpenSpec.ofChange resetCertificatesWrong)

/-- 'groovelaw44.ResetLayers': WHATEVER THE INPUT: true; the input reads as it did. -/
def resetLayersSpec : ChangeSpec := { name := "resetLayers", fn := fun _ => fun
  | [d1, d2] => { results := [.lit (.bool true)], args := [d1, d2] }
  | _ => none }
def resetLayersRow : OpenClaim := { program := "ytmokccidpnpimaadoor", sum := "9f6e1c4ad4cb8ac44aa00e15bbee999a5cdf7b51eadbb757b4311536eff4902c", func := "groove/groovelaw44.ResetLayers", spec := "resetLayers", inPlace := ["internal/bytealg.IndexByteString"], unfollowed := true, recurses := true, named := ["math/bits.deBruijn32tab", "math/bits.deBruijn64tab"], apart := false, laid := [("math/bits.deBruijn32tab", laid_math_bits_deBruijn32tab), ("math/bits.deBruijn64tab", laid_math_bits_deBruijn64tab)] }
def ResetLayersSaid : Prop := resetLayersRow.holds Tryd.pinned (OpenSpec.ofChange resetLayersSpec)

/-- ITS FALSE NEIGHBOUR: 'it returns false'. Refute it at one input. -/
def resetLayersWrong : ChangeSpec := { name := "resetLayers", fn := fun _ => fun
  | [d1, d2] => { results := [.lit (.bool false)], args := [d1, d2] }
  | _ => none }
def ResetLayersWrongFalsely : Prop := resetLayersRow.holds Tryd.pinned (OpenSpec.ofChange resetLayersWrong)

/-- 'groovelaw44.ResetProves': WHATEVER THE INPUT: true; the input reads as it did. -/
def resetProvesSpec : ChangeSpec := { name := "resetProves", fn := fun _ => fun
  | [d1, d2, d3, d4] => { results := [.lit (.bool true)], args := [d1, d2, d3, d4] }
  | _ => none }
def resetProvesRow : OpenClaim := { program := "ytmokccidpnpimaadoor", sum := "9f6e1c4ad4cb8ac44aa00e15bbee999a5cdf7b51eadbb757b4311536eff4902c", func := "groove/groovelaw44.ResetProves", spec := "resetProves", inPlace := ["internal/bytealg.IndexByteString"], unfollowed := true, recurses := true, named := ["math/bits.deBruijn32tab", "math/bits.deBruijn64tab"], apart := false, laid := [("math/bits.deBruijn32tab", laid_math_bits_deBruijn32tab), ("math/bits.deBruijn64tab", laid_math_bits_deBruijn64tab)] }
def ResetProvesSaid : Prop := resetProvesRow.holds Tryd.pinned (OpenSpec.ofChange resetProvesSpec)

/-- ITS FALSE NEIGHBOUR: 'it returns false'. Refute it at one input. -/
def resetProvesWrong : ChangeSpec := { name := "resetProves", fn := fun _ => fun
  | [d1, d2, d3, d4] => { results := [.lit (.bool false)], args := [d1, d2, d3, d4] }
  | _ => none }
def ResetProvesWrongFalsely : Prop := resetProvesRow.holds Tryd.pinned (OpenSpec.ofChange resetProvesWrong)

/-- 'groovelaw44.ResetShortest': WHATEVER THE INPUT: true; the input reads as it did. -/
def resetShortestSpec : ChangeSpec := { name := "resetShortest", fn := fun _ => fun
  | [d1, d2] => { results := [.lit (.bool true)], args := [d1, d2] }
  | _ => none }
def resetShortestRow : OpenClaim := { program := "ytmokccidpnpimaadoor", sum := "9f6e1c4ad4cb8ac44aa00e15bbee999a5cdf7b51eadbb757b4311536eff4902c", func := "groove/groovelaw44.ResetShortest", spec := "resetShortest", inPlace := ["internal/bytealg.IndexByteString"], unfollowed := true, recurses := true, named := ["math/bits.deBruijn32tab", "math/bits.deBruijn64tab"], apart := false, laid := [("math/bits.deBruijn32tab", laid_math_bits_deBruijn32tab), ("math/bits.deBruijn64tab", laid_math_bits_deBruijn64tab)] }
def ResetShortestSaid : Prop := resetShortestRow.holds Tryd.pinned (OpenSpec.ofChange resetShortestSpec)

/-- ITS FALSE NEIGHBOUR: 'it returns false'. Refute it at one input. -/
def resetShortestWrong : ChangeSpec := { name := "resetShortest", fn := fun _ => fun
  | [d1, d2] => { results := [.lit (.bool false)], args := [d1, d2] }
  | _ => none }
def ResetShortestWrongFalsely : Prop := resetShortestRow.holds Tryd.pinned (OpenSpec.ofChange resetShortestWrong)

/-- 'groovelaw44.ResetGreedy': WHATEVER THE INPUT: true; the input reads as it did. -/
def resetGreedySpec : ChangeSpec := { name := "resetGreedy", fn := fun _ => fun
  | [d] => { results := [.lit (.bool true)], args := [d] }
  | _ => none }
def resetGreedyRow : OpenClaim := { program := "ytmokccidpnpimaadoor", sum := "9f6e1c4ad4cb8ac44aa00e15bbee999a5cdf7b51eadbb757b4311536eff4902c", func := "groove/groovelaw44.ResetGreedy", spec := "resetGreedy", inPlace := ["internal/bytealg.IndexByteString"], unfollowed := true, recurses := true, named := ["math/bits.deBruijn32tab", "math/bits.deBruijn64tab"], apart := false, laid := [("math/bits.deBruijn32tab", laid_math_bits_deBruijn32tab), ("math/bits.deBruijn64tab", laid_math_bits_deBruijn64tab)] }
def ResetGreedySaid : Prop := resetGreedyRow.holds Tryd.pinned (OpenSpec.ofChange resetGreedySpec)

/-- ITS FALSE NEIGHBOUR: 'it returns false'. Refute it at one input. -/
def resetGreedyWrong : ChangeSpec := { name := "resetGreedy", fn := fun _ => fun
  | [d] => { results := [.lit (.bool false)], args := [d] }
  | _ => none }
def ResetGreedyWrongFalsely : Prop := resetGreedyRow.holds Tryd.pinned (OpenSpec.ofChange resetGreedyWrong)

/-- 'groovelaw44.ResetApplies': WHATEVER THE INPUT: true; the input reads as it did. -/
def resetAppliesSpec : ChangeSpec := { name := "resetApplies", fn := fun _ => fun
  | [d1, d2, d3] => { results := [.lit (.bool true)], args := [d1, d2, d3] }
  | _ => none }
def resetAppliesRow : OpenClaim := { program := "ytmokccidpnpimaadoor", sum := "9f6e1c4ad4cb8ac44aa00e15bbee999a5cdf7b51eadbb757b4311536eff4902c", func := "groove/groovelaw44.ResetApplies", spec := "resetApplies", inPlace := ["internal/bytealg.IndexByteString"], unfollowed := true, recurses := true, named := ["math/bits.deBruijn32tab", "math/bits.deBruijn64tab"], apart := false, laid := [("math/bits.deBruijn32tab", laid_math_bits_deBruijn32tab), ("math/bits.deBruijn64tab", laid_math_bits_deBruijn64tab)] }
def ResetAppliesSaid : Prop := resetAppliesRow.holds Tryd.pinned (OpenSpec.ofChange resetAppliesSpec)

/-- ITS FALSE NEIGHBOUR: 'it returns false'. Refute it at one input. -/
def resetAppliesWrong : ChangeSpec := { name := "resetApplies", fn := fun _ => fun
  | [d1, d2, d3] => { results := [.lit (.bool false)], args := [d1, d2, d3] }
  | _ => none }
def ResetAppliesWrongFalsely : Prop := resetAppliesRow.holds Tryd.pinned (OpenSpec.ofChange resetAppliesWrong)

/-- 'groovelaw44.ResetExtended': WHATEVER THE INPUT: true; the input reads as it did. -/
def resetExtendedSpec : ChangeSpec := { name := "resetExtended", fn := fun _ => fun
  | [d1, d2, d3, d4] => { results := [.lit (.bool true)], args := [d1, d2, d3, d4] }
  | _ => none }
def resetExtendedRow : OpenClaim := { program := "ytmokccidpnpimaadoor", sum := "9f6e1c4ad4cb8ac44aa00e15bbee999a5cdf7b51eadbb757b4311536eff4902c", func := "groove/groovelaw44.ResetExtended", spec := "resetExtended", inPlace := ["internal/bytealg.IndexByteString"], unfollowed := true, recurses := true, named := ["math/bits.deBruijn32tab", "math/bits.deBruijn64tab"], apart := false, laid := [("math/bits.deBruijn32tab", laid_math_bits_deBruijn32tab), ("math/bits.deBruijn64tab", laid_math_bits_deBruijn64tab)] }
def ResetExtendedSaid : Prop := resetExtendedRow.holds Tryd.pinned (OpenSpec.ofChange resetExtendedSpec)

/-- ITS FALSE NEIGHBOUR: 'it returns false'. Refute it at one input. -/
def resetExtendedWrong : ChangeSpec := { name := "resetExtended", fn := fun _ => fun
  | [d1, d2, d3, d4] => { results := [.lit (.bool false)], args := [d1, d2, d3, d4] }
  | _ => none }
def ResetExtendedWrongFalsely : Prop := resetExtendedRow.holds Tryd.pinned (OpenSpec.ofChange resetExtendedWrong)

/-- 'groovelaw44.ResetWords': WHATEVER THE INPUT: true; the input reads as it did. -/
def resetWordsSpec : ChangeSpec := { name := "resetWords", fn := fun _ => fun
  | [d] => { results := [.lit (.bool true)], args := [d] }
  | _ => none }
def resetWordsRow : OpenClaim := { program := "ytmokccidpnpimaadoor", sum := "9f6e1c4ad4cb8ac44aa00e15bbee999a5cdf7b51eadbb757b4311536eff4902c", func := "groove/groovelaw44.ResetWords", spec := "resetWords", inPlace := ["internal/bytealg.IndexByteString"], unfollowed := true, recurses := true, named := ["math/bits.deBruijn32tab", "math/bits.deBruijn64tab"], apart := false, laid := [("math/bits.deBruijn32tab", laid_math_bits_deBruijn32tab), ("math/bits.deBruijn64tab", laid_math_bits_deBruijn64tab)] }
def ResetWordsSaid : Prop := resetWordsRow.holds Tryd.pinned (OpenSpec.ofChange resetWordsSpec)

/-- ITS FALSE NEIGHBOUR: 'it returns false'. Refute it at one input. -/
def resetWordsWrong : ChangeSpec := { name := "resetWords", fn := fun _ => fun
  | [d] => { results := [.lit (.bool false)], args := [d] }
  | _ => none }
def ResetWordsWrongFalsely : Prop := resetWordsRow.holds Tryd.pinned (OpenSpec.ofChange resetWordsWrong)

/- THE SECOND FORM. 'bulk': how many values and letters a reading holds, each counted each time it is reached (what is shared counts as often as it is met; a slice's spare places count too). A statement '..UptoSaid' is the law's where the arguments, and the package variables that the reading takes, are together of bulk at most 1048576: NARROWER than '..Said'. Prove '..Said' where nothing that the law and all that it calls make is longer than what came in: it says more and counts as full. Else prove '..UptoSaid'. A law counts once. -/
mutual
def uptoBulk {H : Type} : DataW H → Nat
  | .lit (.string bytes) => bytes.length + 1
  | .lit _ => 1
  | .nil => 1
  | .ptr d => uptoBulk d + 1
  | .slice elems spare => uptoBulkAll elems + uptoBulkAll spare + 1
  | .agg parts => uptoBulkAll parts + 1
  | .iface _ d => uptoBulk d + 1
  | .map entries => uptoBulkEntries entries + 1
  | .held _ => 1
def uptoBulkAll {H : Type} : List (DataW H) → Nat
  | [] => 0
  | d :: r => uptoBulk d + uptoBulkAll r
def uptoBulkEntries {H : Type} : List (Lit × DataW H) → Nat
  | [] => 0
  | x :: r => uptoBulkEntry x + uptoBulkEntries r
def uptoBulkEntry {H : Type} : Lit × DataW H → Nat
  | (.string bytes, d) => bytes.length + uptoBulk d + 1
  | (_, d) => uptoBulk d + 1
 end
def uptoSmall : (H : Type) → List (DataW H) → Bool := fun _ ds => decide (uptoBulkAll ds ≤ 1048576)
def OpenSpec.upto (s : _root_.Go.ChangeSpec) : _root_.Go.OpenSpec := { _root_.Go.OpenSpec.ofChange s with cond := some uptoSmall }

/-- 'groovelaw44.ResetCertificates', WHERE WHAT IT READS IS OF BULK AT MOST 1048576: true; the input reads as it did. -/
def resetCertificatesUptoRow : OpenClaim := { program := "ytmokccidpnpimaadoor", sum := "9f6e1c4ad4cb8ac44aa00e15bbee999a5cdf7b51eadbb757b4311536eff4902c", func := "groove/groovelaw44.ResetCertificates", spec := "resetCertificates", inPlace := ["internal/bytealg.IndexByteString"], unfollowed := true, recurses := true, named := ["math/bits.deBruijn32tab", "math/bits.deBruijn64tab"], apart := false, laid := [("math/bits.deBruijn32tab", laid_math_bits_deBruijn32tab), ("math/bits.deBruijn64tab", laid_math_bits_deBruijn64tab)], narrowed := true }
def ResetCertificatesUptoSaid : Prop := resetCertificatesUptoRow.holds Tryd.pinned (OpenSpec.upto resetCertificatesSpec)

/-- 'groovelaw44.ResetLayers', WHERE WHAT IT READS IS OF BULK AT MOST 1048576: true; the input reads as it did. -/
def resetLayersUptoRow : OpenClaim := { program := "ytmokccidpnpimaadoor", sum := "9f6e1c4ad4cb8ac44aa00e15bbee999a5cdf7b51eadbb757b4311536eff4902c", func := "groove/groovelaw44.ResetLayers", spec := "resetLayers", inPlace := ["internal/bytealg.IndexByteString"], unfollowed := true, recurses := true, named := ["math/bits.deBruijn32tab", "math/bits.deBruijn64tab"], apart := false, laid := [("math/bits.deBruijn32tab", laid_math_bits_deBruijn32tab), ("math/bits.deBruijn64tab", laid_math_bits_deBruijn64tab)], narrowed := true }
def ResetLayersUptoSaid : Prop := resetLayersUptoRow.holds Tryd.pinned (OpenSpec.upto resetLayersSpec)

/-- 'groovelaw44.ResetProves', WHERE WHAT IT READS IS OF BULK AT MOST 1048576: true; the input reads as it did. -/
def resetProvesUptoRow : OpenClaim := { program := "ytmokccidpnpimaadoor", sum := "9f6e1c4ad4cb8ac44aa00e15bbee999a5cdf7b51eadbb757b4311536eff4902c", func := "groove/groovelaw44.ResetProves", spec := "resetProves", inPlace := ["internal/bytealg.IndexByteString"], unfollowed := true, recurses := true, named := ["math/bits.deBruijn32tab", "math/bits.deBruijn64tab"], apart := false, laid := [("math/bits.deBruijn32tab", laid_math_bits_deBruijn32tab), ("math/bits.deBruijn64tab", laid_math_bits_deBruijn64tab)], narrowed := true }
def ResetProvesUptoSaid : Prop := resetProvesUptoRow.holds Tryd.pinned (OpenSpec.upto resetProvesSpec)

/-- 'groovelaw44.ResetShortest', WHERE WHAT IT READS IS OF BULK AT MOST 1048576: true; the input reads as it did. -/
def resetShortestUptoRow : OpenClaim := { program := "ytmokccidpnpimaadoor", sum := "9f6e1c4ad4cb8ac44aa00e15bbee999a5cdf7b51eadbb757b4311536eff4902c", func := "groove/groovelaw44.ResetShortest", spec := "resetShortest", inPlace := ["internal/bytealg.IndexByteString"], unfollowed := true, recurses := true, named := ["math/bits.deBruijn32tab", "math/bits.deBruijn64tab"], apart := false, laid := [("math/bits.deBruijn32tab", laid_math_bits_deBruijn32tab), ("math/bits.deBruijn64tab", laid_math_bits_deBruijn64tab)], narrowed := true }
def ResetShortestUptoSaid : Prop := resetShortestUptoRow.holds Tryd.pinned (OpenSpec.upto resetShortestSpec)

/-- 'groovelaw44.ResetGreedy', WHERE WHAT IT READS IS OF BULK AT MOST 1048576: true; the input reads as it did. -/
def resetGreedyUptoRow : OpenClaim := { program := "ytmokccidpnpimaadoor", sum := "9f6e1c4ad4cb8ac44aa00e15bbee999a5cdf7b51eadbb757b4311536eff4902c", func := "groove/groovelaw44.ResetGreedy", spec := "resetGreedy", inPlace := ["internal/bytealg.IndexByteString"], unfollowed := true, recurses := true, named := ["math/bits.deBruijn32tab", "math/bits.deBruijn64tab"], apart := false, laid := [("math/bits.deBruijn32tab", laid_math_bits_deBruijn32tab), ("math/bits.deBruijn64tab", laid_math_bits_deBruijn64tab)], narrowed := true }
def ResetGreedyUptoSaid : Prop := resetGreedyUptoRow.holds Tryd.pinned (OpenSpec.upto resetGreedySpec)

/-- 'groovelaw44.ResetApplies', WHERE WHAT IT READS IS OF BULK AT MOST 1048576: true; the input reads as it did. -/
def resetAppliesUptoRow : OpenClaim := { program := "ytmokccidpnpimaadoor", sum := "9f6e1c4ad4cb8ac44aa00e15bbee999a5cdf7b51eadbb757b4311536eff4902c", func := "groove/groovelaw44.ResetApplies", spec := "resetApplies", inPlace := ["internal/bytealg.IndexByteString"], unfollowed := true, recurses := true, named := ["math/bits.deBruijn32tab", "math/bits.deBruijn64tab"], apart := false, laid := [("math/bits.deBruijn32tab", laid_math_bits_deBruijn32tab), ("math/bits.deBruijn64tab", laid_math_bits_deBruijn64tab)], narrowed := true }
def ResetAppliesUptoSaid : Prop := resetAppliesUptoRow.holds Tryd.pinned (OpenSpec.upto resetAppliesSpec)

/-- 'groovelaw44.ResetExtended', WHERE WHAT IT READS IS OF BULK AT MOST 1048576: true; the input reads as it did. -/
def resetExtendedUptoRow : OpenClaim := { program := "ytmokccidpnpimaadoor", sum := "9f6e1c4ad4cb8ac44aa00e15bbee999a5cdf7b51eadbb757b4311536eff4902c", func := "groove/groovelaw44.ResetExtended", spec := "resetExtended", inPlace := ["internal/bytealg.IndexByteString"], unfollowed := true, recurses := true, named := ["math/bits.deBruijn32tab", "math/bits.deBruijn64tab"], apart := false, laid := [("math/bits.deBruijn32tab", laid_math_bits_deBruijn32tab), ("math/bits.deBruijn64tab", laid_math_bits_deBruijn64tab)], narrowed := true }
def ResetExtendedUptoSaid : Prop := resetExtendedUptoRow.holds Tryd.pinned (OpenSpec.upto resetExtendedSpec)

/-- 'groovelaw44.ResetWords', WHERE WHAT IT READS IS OF BULK AT MOST 1048576: true; the input reads as it did. -/
def resetWordsUptoRow : OpenClaim := { program := "ytmokccidpnpimaadoor", sum := "9f6e1c4ad4cb8ac44aa00e15bbee999a5cdf7b51eadbb757b4311536eff4902c", func := "groove/groovelaw44.ResetWords", spec := "resetWords", inPlace := ["internal/bytealg.IndexByteString"], unfollowed := true, recurses := true, named := ["math/bits.deBruijn32tab", "math/bits.deBruijn64tab"], apart := false, laid := [("math/bits.deBruijn32tab", laid_math_bits_deBruijn32tab), ("math/bits.deBruijn64tab", laid_math_bits_deBruijn64tab)], narrowed := true }
def ResetWordsUptoSaid : Prop := resetWordsUptoRow.holds Tryd.pinned (OpenSpec.upto resetWordsSpec)

end Rows
end Go.Proofs.YtmokccidpnpimaaDoor
