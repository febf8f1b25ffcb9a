/-
  No cell of these rows narrows 'for every input' (looked for: loops, veiled, ifaces, maps, wideKeys, modest, calm, conditions, laid).
  DERIVED. THE GIVEN ROWS OF THIS SEAT. 9 by the template 'for every input the law returns true; each argument reads behind the call as it read before'; 0 by the template 'total and deterministic' (their statements: YtmajalpmbppkpaaTotals.lean).
  GIVEN WITH THE SEED: the statements are not yours to turn. If you find one false, say at which input.
  Laid BY PROGRAM, IN A SANDBOX (cutbox-rows.mjs): the forced cells as the released guide's own fill.sh prints them over the translation ed01d43c5dc24dd2… (all of the seat's roots in one cut). By AI agents, Wed Nov 11 2026. No macro, syntax, notation, axiom, sorry.
-/
import Derived.Test.YtmajalpmbppkpaaChecked
import GoSem.Claim
import GoSem.ClaimJoined
import GoSem.ClaimMapViews
import Derived.JoinedTies
import Derived.KernelRfl
namespace Go.Proofs.Ytmajalpmbppkpaa
/- THE CELL 'sum', in the pinned program and in every row, IS THE sha256 OF THE DUMP (.gsa) THAT YtmajalpmbppkpaaProg.lean LOADS. Nothing in Lean hashes anything: it is a label: what it is worth is what the hold of that sum in a sandbox is worth. -/
noncomputable def Try.pinned : Pinned := { name := "ytmajalpmbppkpaa", sum := "ed01d43c5dc24dd21cc2417e4ccda470899db69cc7c09f467de5d2d7e6e16796", checked := Try.checked }
namespace Rows
def none {H : Type} : Left H := { results := [], args := [] }

/-- 'groovelaw58.ReaderLists': WHATEVER THE INPUT: true; the input reads as it did. -/
def readerListsSpec : ChangeSpec := { name := "readerLists", fn := fun _ => fun
  | [d1, d2] => { results := [.lit (.bool true)], args := [d1, d2] }
  | _ => none }
def readerListsRow : OpenClaim := { program := "ytmajalpmbppkpaa", sum := "ed01d43c5dc24dd21cc2417e4ccda470899db69cc7c09f467de5d2d7e6e16796", func := "groove/groovelaw58.ReaderLists", spec := "readerLists", unfollowed := true, recurses := true, apart := false }
def ReaderListsSaid : Prop := readerListsRow.holds Try.pinned (OpenSpec.ofChange readerListsSpec)

/-- ITS FALSE NEIGHBOUR: 'it returns false'. Refute it at one input. -/
def readerListsWrong : ChangeSpec := { name := "readerLists", fn := fun _ => fun
  | [d1, d2] => { results := [.lit (.bool false)], args := [d1, d2] }
  | _ => none }
def ReaderListsWrongFalsely : Prop := readerListsRow.holds Try.pinned (OpenSpec.ofChange readerListsWrong)

/-- 'groovelaw47.IndelMetric': WHATEVER THE INPUT: true; the input reads as it did. -/
def indelMetricSpec : ChangeSpec := { name := "indelMetric", fn := fun _ => fun
  | [d1, d2, d3, d4] => { results := [.lit (.bool true)], args := [d1, d2, d3, d4] }
  | _ => none }
def indelMetricRow : OpenClaim := { program := "ytmajalpmbppkpaa", sum := "ed01d43c5dc24dd21cc2417e4ccda470899db69cc7c09f467de5d2d7e6e16796", func := "groove/groovelaw47.IndelMetric", spec := "indelMetric", inPlace := ["internal/bytealg.IndexByteString", "internal/abi.NoEscape"], unfollowed := true, recurses := true, apart := false }
def IndelMetricSaid : Prop := indelMetricRow.holds Try.pinned (OpenSpec.ofChange indelMetricSpec)

/-- ITS FALSE NEIGHBOUR: 'it returns false'. Refute it at one input. -/
def indelMetricWrong : ChangeSpec := { name := "indelMetric", fn := fun _ => fun
  | [d1, d2, d3, d4] => { results := [.lit (.bool false)], args := [d1, d2, d3, d4] }
  | _ => none }
def IndelMetricWrongFalsely : Prop := indelMetricRow.holds Try.pinned (OpenSpec.ofChange indelMetricWrong)

/-- 'groovelaw47.IndelCommon': WHATEVER THE INPUT: true; the input reads as it did. -/
def indelCommonSpec : ChangeSpec := { name := "indelCommon", fn := fun _ => fun
  | [d1, d2, d3] => { results := [.lit (.bool true)], args := [d1, d2, d3] }
  | _ => none }
def indelCommonRow : OpenClaim := { program := "ytmajalpmbppkpaa", sum := "ed01d43c5dc24dd21cc2417e4ccda470899db69cc7c09f467de5d2d7e6e16796", func := "groove/groovelaw47.IndelCommon", spec := "indelCommon", inPlace := ["internal/bytealg.IndexByteString", "internal/abi.NoEscape"], unfollowed := true, recurses := true, apart := false }
def IndelCommonSaid : Prop := indelCommonRow.holds Try.pinned (OpenSpec.ofChange indelCommonSpec)

/-- ITS FALSE NEIGHBOUR: 'it returns false'. Refute it at one input. -/
def indelCommonWrong : ChangeSpec := { name := "indelCommon", fn := fun _ => fun
  | [d1, d2, d3] => { results := [.lit (.bool false)], args := [d1, d2, d3] }
  | _ => none }
def IndelCommonWrongFalsely : Prop := indelCommonRow.holds Try.pinned (OpenSpec.ofChange indelCommonWrong)

/-- 'groovelaw47.IndelScripts': WHATEVER THE INPUT: true; the input reads as it did. -/
def indelScriptsSpec : ChangeSpec := { name := "indelScripts", fn := fun _ => fun
  | [d1, d2] => { results := [.lit (.bool true)], args := [d1, d2] }
  | _ => none }
def indelScriptsRow : OpenClaim := { program := "ytmajalpmbppkpaa", sum := "ed01d43c5dc24dd21cc2417e4ccda470899db69cc7c09f467de5d2d7e6e16796", func := "groove/groovelaw47.IndelScripts", spec := "indelScripts", inPlace := ["internal/bytealg.IndexByteString", "internal/abi.NoEscape"], unfollowed := true, recurses := true, apart := false }
def IndelScriptsSaid : Prop := indelScriptsRow.holds Try.pinned (OpenSpec.ofChange indelScriptsSpec)

/-- ITS FALSE NEIGHBOUR: 'it returns false'. Refute it at one input. -/
def indelScriptsWrong : ChangeSpec := { name := "indelScripts", fn := fun _ => fun
  | [d1, d2] => { results := [.lit (.bool false)], args := [d1, d2] }
  | _ => none }
def IndelScriptsWrongFalsely : Prop := indelScriptsRow.holds Try.pinned (OpenSpec.ofChange indelScriptsWrong)

/-- 'groovelaw47.IndelPairs': WHATEVER THE INPUT: true; the input reads as it did. -/
def indelPairsSpec : ChangeSpec := { name := "indelPairs", fn := fun _ => fun
  | [d1, d2, d3] => { results := [.lit (.bool true)], args := [d1, d2, d3] }
  | _ => none }
def indelPairsRow : OpenClaim := { program := "ytmajalpmbppkpaa", sum := "ed01d43c5dc24dd21cc2417e4ccda470899db69cc7c09f467de5d2d7e6e16796", func := "groove/groovelaw47.IndelPairs", spec := "indelPairs", inPlace := ["internal/bytealg.IndexByteString", "internal/abi.NoEscape"], unfollowed := true, recurses := true, apart := false }
def IndelPairsSaid : Prop := indelPairsRow.holds Try.pinned (OpenSpec.ofChange indelPairsSpec)

/-- ITS FALSE NEIGHBOUR: 'it returns false'. Refute it at one input. -/
def indelPairsWrong : ChangeSpec := { name := "indelPairs", fn := fun _ => fun
  | [d1, d2, d3] => { results := [.lit (.bool false)], args := [d1, d2, d3] }
  | _ => none }
def IndelPairsWrongFalsely : Prop := indelPairsRow.holds Try.pinned (OpenSpec.ofChange indelPairsWrong)

/-- 'groovelaw47.IndelLetters': WHATEVER THE INPUT: true; the input reads as it did. -/
def indelLettersSpec : ChangeSpec := { name := "indelLetters", fn := fun _ => fun
  | [d1, d2] => { results := [.lit (.bool true)], args := [d1, d2] }
  | _ => none }
def indelLettersRow : OpenClaim := { program := "ytmajalpmbppkpaa", sum := "ed01d43c5dc24dd21cc2417e4ccda470899db69cc7c09f467de5d2d7e6e16796", func := "groove/groovelaw47.IndelLetters", spec := "indelLetters", inPlace := ["internal/bytealg.IndexByteString", "internal/abi.NoEscape"], unfollowed := true, recurses := true, apart := false }
def IndelLettersSaid : Prop := indelLettersRow.holds Try.pinned (OpenSpec.ofChange indelLettersSpec)

/-- ITS FALSE NEIGHBOUR: 'it returns false'. Refute it at one input. -/
def indelLettersWrong : ChangeSpec := { name := "indelLetters", fn := fun _ => fun
  | [d1, d2] => { results := [.lit (.bool false)], args := [d1, d2] }
  | _ => none }
def IndelLettersWrongFalsely : Prop := indelLettersRow.holds Try.pinned (OpenSpec.ofChange indelLettersWrong)

/-- 'groovelaw47.IndelBall': WHATEVER THE INPUT: true; the input reads as it did. -/
def indelBallSpec : ChangeSpec := { name := "indelBall", fn := fun _ => fun
  | [d1, d2, d3] => { results := [.lit (.bool true)], args := [d1, d2, d3] }
  | _ => none }
def indelBallRow : OpenClaim := { program := "ytmajalpmbppkpaa", sum := "ed01d43c5dc24dd21cc2417e4ccda470899db69cc7c09f467de5d2d7e6e16796", func := "groove/groovelaw47.IndelBall", spec := "indelBall", inPlace := ["internal/bytealg.IndexByteString", "internal/abi.NoEscape"], unfollowed := true, recurses := true, apart := false }
def IndelBallSaid : Prop := indelBallRow.holds Try.pinned (OpenSpec.ofChange indelBallSpec)

/-- ITS FALSE NEIGHBOUR: 'it returns false'. Refute it at one input. -/
def indelBallWrong : ChangeSpec := { name := "indelBall", fn := fun _ => fun
  | [d1, d2, d3] => { results := [.lit (.bool false)], args := [d1, d2, d3] }
  | _ => none }
def IndelBallWrongFalsely : Prop := indelBallRow.holds Try.pinned (OpenSpec.ofChange indelBallWrong)

/-- 'groovelaw47.IndelBalls': WHATEVER THE INPUT: true; the input reads as it did. -/
def indelBallsSpec : ChangeSpec := { name := "indelBalls", fn := fun _ => fun
  | [d1, d2, d3, d4] => { results := [.lit (.bool true)], args := [d1, d2, d3, d4] }
  | _ => none }
def indelBallsRow : OpenClaim := { program := "ytmajalpmbppkpaa", sum := "ed01d43c5dc24dd21cc2417e4ccda470899db69cc7c09f467de5d2d7e6e16796", func := "groove/groovelaw47.IndelBalls", spec := "indelBalls", inPlace := ["internal/bytealg.IndexByteString", "internal/abi.NoEscape"], unfollowed := true, recurses := true, apart := false }
def IndelBallsSaid : Prop := indelBallsRow.holds Try.pinned (OpenSpec.ofChange indelBallsSpec)

/-- ITS FALSE NEIGHBOUR: 'it returns false'. Refute it at one input. -/
def indelBallsWrong : ChangeSpec := { name := "indelBalls", fn := fun _ => fun
  | [d1, d2, d3, d4] => { results := [.lit (.bool false)], args := [d1, d2, d3, d4] }
  | _ => none }
def IndelBallsWrongFalsely : Prop := indelBallsRow.holds Try.pinned (OpenSpec.ofChange indelBallsWrong)

/-- 'groovelaw47.IndelConfuses': WHATEVER THE INPUT: true; the input reads as it did. -/
def indelConfusesSpec : ChangeSpec := { name := "indelConfuses", fn := fun _ => fun
  | [d1, d2, d3, d4] => { results := [.lit (.bool true)], args := [d1, d2, d3, d4] }
  | _ => none }
def indelConfusesRow : OpenClaim := { program := "ytmajalpmbppkpaa", sum := "ed01d43c5dc24dd21cc2417e4ccda470899db69cc7c09f467de5d2d7e6e16796", func := "groove/groovelaw47.IndelConfuses", spec := "indelConfuses", inPlace := ["internal/bytealg.IndexByteString", "internal/abi.NoEscape"], unfollowed := true, recurses := true, apart := false }
def IndelConfusesSaid : Prop := indelConfusesRow.holds Try.pinned (OpenSpec.ofChange indelConfusesSpec)

/-- ITS FALSE NEIGHBOUR: 'it returns false'. Refute it at one input. -/
def indelConfusesWrong : ChangeSpec := { name := "indelConfuses", fn := fun _ => fun
  | [d1, d2, d3, d4] => { results := [.lit (.bool false)], args := [d1, d2, d3, d4] }
  | _ => none }
def IndelConfusesWrongFalsely : Prop := indelConfusesRow.holds Try.pinned (OpenSpec.ofChange indelConfusesWrong)

/- THE SECOND FORM. 'bulk': how many values and letters a reading holds, each counted each time it is reached (what is shared counts as often as it is met; a slice's spare places count too). A statement '..UptoSaid' is the law's where the arguments, and the package variables that the reading takes, are together of bulk at most 1048576: NARROWER than '..Said'. Prove '..Said' where nothing that the law and all that it calls make is longer than what came in: it says more and counts as full. Else prove '..UptoSaid'. A law counts once. -/
mutual
def uptoBulk {H : Type} : DataW H → Nat
  | .lit (.string bytes) => bytes.length + 1
  | .lit _ => 1
  | .nil => 1
  | .ptr d => uptoBulk d + 1
  | .slice elems spare => uptoBulkAll elems + uptoBulkAll spare + 1
  | .agg parts => uptoBulkAll parts + 1
  | .iface _ d => uptoBulk d + 1
  | .map entries => uptoBulkEntries entries + 1
  | .held _ => 1
def uptoBulkAll {H : Type} : List (DataW H) → Nat
  | [] => 0
  | d :: r => uptoBulk d + uptoBulkAll r
def uptoBulkEntries {H : Type} : List (Lit × DataW H) → Nat
  | [] => 0
  | x :: r => uptoBulkEntry x + uptoBulkEntries r
def uptoBulkEntry {H : Type} : Lit × DataW H → Nat
  | (.string bytes, d) => bytes.length + uptoBulk d + 1
  | (_, d) => uptoBulk d + 1
 end
def uptoSmall : (H : Type) → List (DataW H) → Bool := fun _ ds => decide (uptoBulkAll ds ≤ 1048576)
def OpenSpec.upto (s : _root_.Go.ChangeSpec) : _root_.Go.OpenSpec := { _root_.Go.OpenSpec.ofChange s with cond := some uptoSmall }

/-- 'groovelaw58.ReaderLists', WHERE WHAT IT READS IS OF BULK AT MOST 1048576: true; the input reads as it did. -/
def readerListsUptoRow : OpenClaim := { program := "ytmajalpmbppkpaa", sum := "ed01d43c5dc24dd21cc2417e4ccda470899db69cc7c09f467de5d2d7e6e16796", func := "groove/groovelaw58.ReaderLists", spec := "readerLists", unfollowed := true, recurses := true, apart := false, narrowed := true }
def ReaderListsUptoSaid : Prop := readerListsUptoRow.holds Try.pinned (OpenSpec.upto readerListsSpec)

/-- 'groovelaw47.IndelMetric', WHERE WHAT IT READS IS OF BULK AT MOST 1048576: true; the input reads as it did. -/
def indelMetricUptoRow : OpenClaim := { program := "ytmajalpmbppkpaa", sum := "ed01d43c5dc24dd21cc2417e4ccda470899db69cc7c09f467de5d2d7e6e16796", func := "groove/groovelaw47.IndelMetric", spec := "indelMetric", inPlace := ["internal/bytealg.IndexByteString", "internal/abi.NoEscape"], unfollowed := true, recurses := true, apart := false, narrowed := true }
def IndelMetricUptoSaid : Prop := indelMetricUptoRow.holds Try.pinned (OpenSpec.upto indelMetricSpec)

/-- 'groovelaw47.IndelCommon', WHERE WHAT IT READS IS OF BULK AT MOST 1048576: true; the input reads as it did. -/
def indelCommonUptoRow : OpenClaim := { program := "ytmajalpmbppkpaa", sum := "ed01d43c5dc24dd21cc2417e4ccda470899db69cc7c09f467de5d2d7e6e16796", func := "groove/groovelaw47.IndelCommon", spec := "indelCommon", inPlace := ["internal/bytealg.IndexByteString", "internal/abi.NoEscape"], unfollowed := true, recurses := true, apart := false, narrowed := true }
def IndelCommonUptoSaid : Prop := indelCommonUptoRow.holds Try.pinned (OpenSpec.upto indelCommonSpec)

/-- 'groovelaw47.IndelScripts', WHERE WHAT IT READS IS OF BULK AT MOST 1048576: true; the input reads as it did. -/
def indelScriptsUptoRow : OpenClaim := { program := "ytmajalpmbppkpaa", sum := "ed01d43c5dc24dd21cc2417e4ccda470899db69cc7c09f467de5d2d7e6e16796", func := "groove/groovelaw47.IndelScripts", spec := "indelScripts", inPlace := ["internal/bytealg.IndexByteString", "internal/abi.NoEscape"], unfollowed := true, recurses := true, apart := false, narrowed := true }
def IndelScriptsUptoSaid : Prop := indelScriptsUptoRow.holds Try.pinned (OpenSpec.upto indelScriptsSpec)

/-- 'groovelaw47.IndelPairs', WHERE WHAT IT READS IS OF BULK AT MOST 1048576: true; the input reads as it did. -/
def indelPairsUptoRow : OpenClaim := { program := "ytmajalpmbppkpaa", sum := "ed01d43c5dc24dd21cc2417e4ccda470899db69cc7c09f467de5d2d7e6e16796", func := "groove/groovelaw47.IndelPairs", spec := "indelPairs", inPlace := ["internal/bytealg.IndexByteString", "internal/abi.NoEscape"], unfollowed := true, recurses := true, apart := false, narrowed := true }
def IndelPairsUptoSaid : Prop := indelPairsUptoRow.holds Try.pinned (OpenSpec.upto indelPairsSpec)

/-- 'groovelaw47.IndelLetters', WHERE WHAT IT READS IS OF BULK AT MOST 1048576: true; the input reads as it did. -/
def indelLettersUptoRow : OpenClaim := { program := "ytmajalpmbppkpaa", sum := "ed01d43c5dc24dd21cc2417e4ccda470899db69cc7c09f467de5d2d7e6e16796", func := "groove/groovelaw47.IndelLetters", spec := "indelLetters", inPlace := ["internal/bytealg.IndexByteString", "internal/abi.NoEscape"], unfollowed := true, recurses := true, apart := false, narrowed := true }
def IndelLettersUptoSaid : Prop := indelLettersUptoRow.holds Try.pinned (OpenSpec.upto indelLettersSpec)

/-- 'groovelaw47.IndelBall', WHERE WHAT IT READS IS OF BULK AT MOST 1048576: true; the input reads as it did. -/
def indelBallUptoRow : OpenClaim := { program := "ytmajalpmbppkpaa", sum := "ed01d43c5dc24dd21cc2417e4ccda470899db69cc7c09f467de5d2d7e6e16796", func := "groove/groovelaw47.IndelBall", spec := "indelBall", inPlace := ["internal/bytealg.IndexByteString", "internal/abi.NoEscape"], unfollowed := true, recurses := true, apart := false, narrowed := true }
def IndelBallUptoSaid : Prop := indelBallUptoRow.holds Try.pinned (OpenSpec.upto indelBallSpec)

/-- 'groovelaw47.IndelBalls', WHERE WHAT IT READS IS OF BULK AT MOST 1048576: true; the input reads as it did. -/
def indelBallsUptoRow : OpenClaim := { program := "ytmajalpmbppkpaa", sum := "ed01d43c5dc24dd21cc2417e4ccda470899db69cc7c09f467de5d2d7e6e16796", func := "groove/groovelaw47.IndelBalls", spec := "indelBalls", inPlace := ["internal/bytealg.IndexByteString", "internal/abi.NoEscape"], unfollowed := true, recurses := true, apart := false, narrowed := true }
def IndelBallsUptoSaid : Prop := indelBallsUptoRow.holds Try.pinned (OpenSpec.upto indelBallsSpec)

/-- 'groovelaw47.IndelConfuses', WHERE WHAT IT READS IS OF BULK AT MOST 1048576: true; the input reads as it did. -/
def indelConfusesUptoRow : OpenClaim := { program := "ytmajalpmbppkpaa", sum := "ed01d43c5dc24dd21cc2417e4ccda470899db69cc7c09f467de5d2d7e6e16796", func := "groove/groovelaw47.IndelConfuses", spec := "indelConfuses", inPlace := ["internal/bytealg.IndexByteString", "internal/abi.NoEscape"], unfollowed := true, recurses := true, apart := false, narrowed := true }
def IndelConfusesUptoSaid : Prop := indelConfusesUptoRow.holds Try.pinned (OpenSpec.upto indelConfusesSpec)

end Rows
end Go.Proofs.Ytmajalpmbppkpaa
