/-
  No cell of these rows narrows 'for every input' (looked for: loops, veiled, ifaces, maps, wideKeys, modest, calm, conditions, laid).
  DERIVED. THE GIVEN ROWS OF THIS SEAT. 8 by the template 'for every input the law returns true; each argument reads behind the call as it read before'; 0 by the template 'total and deterministic' (their statements: YtijeogengbphdaaTotals.lean).
  GIVEN WITH THE SEED: the statements are not yours to turn. If you find one false, say at which input.
  Laid BY PROGRAM, IN A SANDBOX (cutbox-rows.mjs): the forced cells as the released guide's own fill.sh prints them over the translation c1cae406718cd6f7… (all of the seat's roots in one cut). By AI agents, Wed Nov 11 2026. No macro, syntax, notation, axiom, sorry.
-/
import Derived.Test.YtijeogengbphdaaChecked
import GoSem.Claim
import GoSem.ClaimJoined
import GoSem.ClaimMapViews
import Derived.JoinedTies
import Derived.KernelRfl
namespace Go.Proofs.Ytijeogengbphdaa
/- THE CELL 'sum', in the pinned program and in every row, IS THE sha256 OF THE DUMP (.gsa) THAT YtijeogengbphdaaProg.lean LOADS. Nothing in Lean hashes anything: it is a label: what it is worth is what the hold of that sum in a sandbox is worth. -/
noncomputable def Try.pinned : Pinned := { name := "ytijeogengbphdaa", sum := "c1cae406718cd6f773c6f18b6d38759414637ab7fb7d821d5d251c70ca325676", checked := Try.checked }
namespace Rows
def none {H : Type} : Left H := { results := [], args := [] }

/-- 'groovelaw48.TenengoltsCorrects': WHATEVER THE INPUT: true; the input reads as it did. -/
def tenengoltsCorrectsSpec : ChangeSpec := { name := "tenengoltsCorrects", fn := fun _ => fun
  | [d1, d2, d3] => { results := [.lit (.bool true)], args := [d1, d2, d3] }
  | _ => none }
def tenengoltsCorrectsRow : OpenClaim := { program := "ytijeogengbphdaa", sum := "c1cae406718cd6f773c6f18b6d38759414637ab7fb7d821d5d251c70ca325676", func := "groove/groovelaw48.TenengoltsCorrects", spec := "tenengoltsCorrects", inPlace := ["internal/abi.NoEscape", "internal/bytealg.MakeNoZero", "internal/bytealg.IndexByteString"], unfollowed := true, recurses := true, apart := false }
def TenengoltsCorrectsSaid : Prop := tenengoltsCorrectsRow.holds Try.pinned (OpenSpec.ofChange tenengoltsCorrectsSpec)

/-- ITS FALSE NEIGHBOUR: 'it returns false'. Refute it at one input. -/
def tenengoltsCorrectsWrong : ChangeSpec := { name := "tenengoltsCorrects", fn := fun _ => fun
  | [d1, d2, d3] => { results := [.lit (.bool false)], args := [d1, d2, d3] }
  | _ => none }
def TenengoltsCorrectsWrongFalsely : Prop := tenengoltsCorrectsRow.holds Try.pinned (OpenSpec.ofChange tenengoltsCorrectsWrong)

/-- 'groovelaw48.TenengoltsDeletion': WHATEVER THE INPUT: true; the input reads as it did. -/
def tenengoltsDeletionSpec : ChangeSpec := { name := "tenengoltsDeletion", fn := fun _ => fun
  | [d1, d2, d3] => { results := [.lit (.bool true)], args := [d1, d2, d3] }
  | _ => none }
def tenengoltsDeletionRow : OpenClaim := { program := "ytijeogengbphdaa", sum := "c1cae406718cd6f773c6f18b6d38759414637ab7fb7d821d5d251c70ca325676", func := "groove/groovelaw48.TenengoltsDeletion", spec := "tenengoltsDeletion", inPlace := ["internal/abi.NoEscape", "internal/bytealg.MakeNoZero", "internal/bytealg.IndexByteString"], unfollowed := true, recurses := true, apart := false }
def TenengoltsDeletionSaid : Prop := tenengoltsDeletionRow.holds Try.pinned (OpenSpec.ofChange tenengoltsDeletionSpec)

/-- ITS FALSE NEIGHBOUR: 'it returns false'. Refute it at one input. -/
def tenengoltsDeletionWrong : ChangeSpec := { name := "tenengoltsDeletion", fn := fun _ => fun
  | [d1, d2, d3] => { results := [.lit (.bool false)], args := [d1, d2, d3] }
  | _ => none }
def TenengoltsDeletionWrongFalsely : Prop := tenengoltsDeletionRow.holds Try.pinned (OpenSpec.ofChange tenengoltsDeletionWrong)

/-- 'groovelaw48.TenengoltsCodes': WHATEVER THE INPUT: true; the input reads as it did. -/
def tenengoltsCodesSpec : ChangeSpec := { name := "tenengoltsCodes", fn := fun _ => fun
  | [d1, d2] => { results := [.lit (.bool true)], args := [d1, d2] }
  | _ => none }
def tenengoltsCodesRow : OpenClaim := { program := "ytijeogengbphdaa", sum := "c1cae406718cd6f773c6f18b6d38759414637ab7fb7d821d5d251c70ca325676", func := "groove/groovelaw48.TenengoltsCodes", spec := "tenengoltsCodes", inPlace := ["internal/abi.NoEscape", "internal/bytealg.MakeNoZero", "internal/bytealg.IndexByteString"], unfollowed := true, recurses := true, apart := false }
def TenengoltsCodesSaid : Prop := tenengoltsCodesRow.holds Try.pinned (OpenSpec.ofChange tenengoltsCodesSpec)

/-- ITS FALSE NEIGHBOUR: 'it returns false'. Refute it at one input. -/
def tenengoltsCodesWrong : ChangeSpec := { name := "tenengoltsCodes", fn := fun _ => fun
  | [d1, d2] => { results := [.lit (.bool false)], args := [d1, d2] }
  | _ => none }
def TenengoltsCodesWrongFalsely : Prop := tenengoltsCodesRow.holds Try.pinned (OpenSpec.ofChange tenengoltsCodesWrong)

/-- 'groovelaw48.TenengoltsSystematic': WHATEVER THE INPUT: true; the input reads as it did. -/
def tenengoltsSystematicSpec : ChangeSpec := { name := "tenengoltsSystematic", fn := fun _ => fun
  | [d1, d2, d3, d4] => { results := [.lit (.bool true)], args := [d1, d2, d3, d4] }
  | _ => none }
def tenengoltsSystematicRow : OpenClaim := { program := "ytijeogengbphdaa", sum := "c1cae406718cd6f773c6f18b6d38759414637ab7fb7d821d5d251c70ca325676", func := "groove/groovelaw48.TenengoltsSystematic", spec := "tenengoltsSystematic", inPlace := ["internal/abi.NoEscape", "internal/bytealg.MakeNoZero", "internal/bytealg.IndexByteString"], unfollowed := true, recurses := true, apart := false }
def TenengoltsSystematicSaid : Prop := tenengoltsSystematicRow.holds Try.pinned (OpenSpec.ofChange tenengoltsSystematicSpec)

/-- ITS FALSE NEIGHBOUR: 'it returns false'. Refute it at one input. -/
def tenengoltsSystematicWrong : ChangeSpec := { name := "tenengoltsSystematic", fn := fun _ => fun
  | [d1, d2, d3, d4] => { results := [.lit (.bool false)], args := [d1, d2, d3, d4] }
  | _ => none }
def TenengoltsSystematicWrongFalsely : Prop := tenengoltsSystematicRow.holds Try.pinned (OpenSpec.ofChange tenengoltsSystematicWrong)

/-- 'groovelaw48.TenengoltsWords': WHATEVER THE INPUT: true; the input reads as it did. -/
def tenengoltsWordsSpec : ChangeSpec := { name := "tenengoltsWords", fn := fun _ => fun
  | [d1, d2, d3] => { results := [.lit (.bool true)], args := [d1, d2, d3] }
  | _ => none }
def tenengoltsWordsRow : OpenClaim := { program := "ytijeogengbphdaa", sum := "c1cae406718cd6f773c6f18b6d38759414637ab7fb7d821d5d251c70ca325676", func := "groove/groovelaw48.TenengoltsWords", spec := "tenengoltsWords", inPlace := ["internal/abi.NoEscape", "internal/bytealg.MakeNoZero", "internal/bytealg.IndexByteString"], unfollowed := true, recurses := true, apart := false }
def TenengoltsWordsSaid : Prop := tenengoltsWordsRow.holds Try.pinned (OpenSpec.ofChange tenengoltsWordsSpec)

/-- ITS FALSE NEIGHBOUR: 'it returns false'. Refute it at one input. -/
def tenengoltsWordsWrong : ChangeSpec := { name := "tenengoltsWords", fn := fun _ => fun
  | [d1, d2, d3] => { results := [.lit (.bool false)], args := [d1, d2, d3] }
  | _ => none }
def TenengoltsWordsWrongFalsely : Prop := tenengoltsWordsRow.holds Try.pinned (OpenSpec.ofChange tenengoltsWordsWrong)

/-- 'groovelaw48.TenengoltsPartition': WHATEVER THE INPUT: true; the input reads as it did. -/
def tenengoltsPartitionSpec : ChangeSpec := { name := "tenengoltsPartition", fn := fun _ => fun
  | [d1, d2, d3] => { results := [.lit (.bool true)], args := [d1, d2, d3] }
  | _ => none }
def tenengoltsPartitionRow : OpenClaim := { program := "ytijeogengbphdaa", sum := "c1cae406718cd6f773c6f18b6d38759414637ab7fb7d821d5d251c70ca325676", func := "groove/groovelaw48.TenengoltsPartition", spec := "tenengoltsPartition", inPlace := ["internal/abi.NoEscape", "internal/bytealg.MakeNoZero", "internal/bytealg.IndexByteString"], unfollowed := true, recurses := true, apart := false }
def TenengoltsPartitionSaid : Prop := tenengoltsPartitionRow.holds Try.pinned (OpenSpec.ofChange tenengoltsPartitionSpec)

/-- ITS FALSE NEIGHBOUR: 'it returns false'. Refute it at one input. -/
def tenengoltsPartitionWrong : ChangeSpec := { name := "tenengoltsPartition", fn := fun _ => fun
  | [d1, d2, d3] => { results := [.lit (.bool false)], args := [d1, d2, d3] }
  | _ => none }
def TenengoltsPartitionWrongFalsely : Prop := tenengoltsPartitionRow.holds Try.pinned (OpenSpec.ofChange tenengoltsPartitionWrong)

/-- 'groovelaw48.TenengoltsPerfect': WHATEVER THE INPUT: true; the input reads as it did. -/
def tenengoltsPerfectSpec : ChangeSpec := { name := "tenengoltsPerfect", fn := fun _ => fun
  | [d1, d2] => { results := [.lit (.bool true)], args := [d1, d2] }
  | _ => none }
def tenengoltsPerfectRow : OpenClaim := { program := "ytijeogengbphdaa", sum := "c1cae406718cd6f773c6f18b6d38759414637ab7fb7d821d5d251c70ca325676", func := "groove/groovelaw48.TenengoltsPerfect", spec := "tenengoltsPerfect", inPlace := ["internal/abi.NoEscape", "internal/bytealg.MakeNoZero", "internal/bytealg.IndexByteString"], unfollowed := true, recurses := true, apart := false }
def TenengoltsPerfectSaid : Prop := tenengoltsPerfectRow.holds Try.pinned (OpenSpec.ofChange tenengoltsPerfectSpec)

/-- ITS FALSE NEIGHBOUR: 'it returns false'. Refute it at one input. -/
def tenengoltsPerfectWrong : ChangeSpec := { name := "tenengoltsPerfect", fn := fun _ => fun
  | [d1, d2] => { results := [.lit (.bool false)], args := [d1, d2] }
  | _ => none }
def TenengoltsPerfectWrongFalsely : Prop := tenengoltsPerfectRow.holds Try.pinned (OpenSpec.ofChange tenengoltsPerfectWrong)

/-- 'groovelaw48.TenengoltsDisjoint': WHATEVER THE INPUT: true; the input reads as it did. -/
def tenengoltsDisjointSpec : ChangeSpec := { name := "tenengoltsDisjoint", fn := fun _ => fun
  | [d1, d2] => { results := [.lit (.bool true)], args := [d1, d2] }
  | _ => none }
def tenengoltsDisjointRow : OpenClaim := { program := "ytijeogengbphdaa", sum := "c1cae406718cd6f773c6f18b6d38759414637ab7fb7d821d5d251c70ca325676", func := "groove/groovelaw48.TenengoltsDisjoint", spec := "tenengoltsDisjoint", inPlace := ["internal/abi.NoEscape", "internal/bytealg.MakeNoZero", "internal/bytealg.IndexByteString"], unfollowed := true, recurses := true, apart := false }
def TenengoltsDisjointSaid : Prop := tenengoltsDisjointRow.holds Try.pinned (OpenSpec.ofChange tenengoltsDisjointSpec)

/-- ITS FALSE NEIGHBOUR: 'it returns false'. Refute it at one input. -/
def tenengoltsDisjointWrong : ChangeSpec := { name := "tenengoltsDisjoint", fn := fun _ => fun
  | [d1, d2] => { results := [.lit (.bool false)], args := [d1, d2] }
  | _ => none }
def TenengoltsDisjointWrongFalsely : Prop := tenengoltsDisjointRow.holds Try.pinned (OpenSpec.ofChange tenengoltsDisjointWrong)

/- THE SECOND FORM. 'bulk': how many values and letters a reading holds, each counted each time it is reached (what is shared counts as often as it is met; a slice's spare places count too). A statement '..UptoSaid' is the law's where the arguments, and the package variables that the reading takes, are together of bulk at most 1048576: NARROWER than '..Said'. Prove '..Said' where nothing that the law and all that it calls make is longer than what came in: it says more and counts as full. Else prove '..UptoSaid'. A law counts once. -/
mutual
def uptoBulk {H : Type} : DataW H → Nat
  | .lit (.string bytes) => bytes.length + 1
  | .lit _ => 1
  | .nil => 1
  | .ptr d => uptoBulk d + 1
  | .slice elems spare => uptoBulkAll elems + uptoBulkAll spare + 1
  | .agg parts => uptoBulkAll parts + 1
  | .iface _ d => uptoBulk d + 1
  | .map entries => uptoBulkEntries entries + 1
  | .held _ => 1
def uptoBulkAll {H : Type} : List (DataW H) → Nat
  | [] => 0
  | d :: r => uptoBulk d + uptoBulkAll r
def uptoBulkEntries {H : Type} : List (Lit × DataW H) → Nat
  | [] => 0
  | x :: r => uptoBulkEntry x + uptoBulkEntries r
def uptoBulkEntry {H : Type} : Lit × DataW H → Nat
  | (.string bytes, d) => bytes.length + uptoBulk d + 1
  | (_, d) => uptoBulk d + 1
 end
def uptoSmall : (H : Type) → List (DataW H) → Bool := fun _ ds => decide (uptoBulkAll ds ≤ 1048576)
def OpenSpec.upto (s : _root_.Go.ChangeSpec) : _root_.Go.OpenSpec := { _root_.Go.OpenSpec.ofChange s with cond := some uptoSmall }

/-- 'groovelaw48.TenengoltsCorrects', WHERE WHAT IT READS IS OF BULK AT MOST 1048576: true; the input reads as it did. -/
def tenengoltsCorrectsUptoRow : OpenClaim := { program := "ytijeogengbphdaa", sum := "c1cae406718cd6f773c6f18b6d38759414637ab7fb7d821d5d251c70ca325676", func := "groove/groovelaw48.TenengoltsCorrects", spec := "tenengoltsCorrects", inPlace := ["internal/abi.NoEscape", "internal/bytealg.MakeNoZero", "internal/bytealg.IndexByteString"], unfollowed := true, recurses := true, apart := false, narrowed := true }
def TenengoltsCorrectsUptoSaid : Prop := tenengoltsCorrectsUptoRow.holds Try.pinned (OpenSpec.upto tenengoltsCorrectsSpec)

/-- 'groovelaw48.TenengoltsDeletion', WHERE WHAT IT READS IS OF BULK AT MOST 1048576: true; the input reads as it did. -/
def tenengoltsDeletionUptoRow : OpenClaim := { program := "ytijeogengbphdaa", sum := "c1cae406718cd6f773c6f18b6d38759414637ab7fb7d821d5d251c70ca325676", func := "groove/groovelaw48.TenengoltsDeletion", spec := "tenengoltsDeletion", inPlace := ["internal/abi.NoEscape", "internal/bytealg.MakeNoZero", "internal/bytealg.IndexByteString"], unfollowed := true, recurses := true, apart := false, narrowed := true }
def TenengoltsDeletionUptoSaid : Prop := tenengoltsDeletionUptoRow.holds Try.pinned (OpenSpec.upto tenengoltsDeletionSpec)

/-- 'groovelaw48.TenengoltsCodes', WHERE WHAT IT READS IS OF BULK AT MOST 1048576: true; the input reads as it did. -/
def tenengoltsCodesUptoRow : OpenClaim := { program := "ytijeogengbphdaa", sum := "c1cae406718cd6f773c6f18b6d38759414637ab7fb7d821d5d251c70ca325676", func := "groove/groovelaw48.TenengoltsCodes", spec := "tenengoltsCodes", inPlace := ["internal/abi.NoEscape", "internal/bytealg.MakeNoZero", "internal/bytealg.IndexByteString"], unfollowed := true, recurses := true, apart := false, narrowed := true }
def TenengoltsCodesUptoSaid : Prop := tenengoltsCodesUptoRow.holds Try.pinned (OpenSpec.upto tenengoltsCodesSpec)

/-- 'groovelaw48.TenengoltsSystematic', WHERE WHAT IT READS IS OF BULK AT MOST 1048576: true; the input reads as it did. -/
def tenengoltsSystematicUptoRow : OpenClaim := { program := "ytijeogengbphdaa", sum := "c1cae406718cd6f773c6f18b6d38759414637ab7fb7d821d5d251c70ca325676", func := "groove/groovelaw48.TenengoltsSystematic", spec := "tenengoltsSystematic", inPlace := ["internal/abi.NoEscape", "internal/bytealg.MakeNoZero", "internal/bytealg.IndexByteString"], unfollowed := true, recurses := true, apart := false, narrowed := true }
def TenengoltsSystematicUptoSaid : Prop := tenengoltsSystematicUptoRow.holds Try.pinned (OpenSpec.upto tenengoltsSystematicSpec)

/-- 'groovelaw48.TenengoltsWords', WHERE WHAT IT READS IS OF BULK AT MOST 1048576: true; the input reads as it did. -/
def tenengoltsWordsUptoRow : OpenClaim := { program := "ytijeogengbphdaa", sum := "c1cae406718cd6f773c6f18b6d38759414637ab7fb7d821d5d251c70ca325676", func := "groove/groovelaw48.TenengoltsWords", spec := "tenengoltsWords", inPlace := ["internal/abi.NoEscape", "internal/bytealg.MakeNoZero", "internal/bytealg.IndexByteString"], unfollowed := true, recurses := true, apart := false, narrowed := true }
def TenengoltsWordsUptoSaid : Prop := tenengoltsWordsUptoRow.holds Try.pinned (OpenSpec.upto tenengoltsWordsSpec)

/-- 'groovelaw48.TenengoltsPartition', WHERE WHAT IT READS IS OF BULK AT MOST 1048576: true; the input reads as it did. -/
def tenengoltsPartitionUptoRow : OpenClaim := { program := "ytijeogengbphdaa", sum := "c1cae406718cd6f773c6f18b6d38759414637ab7fb7d821d5d251c70ca325676", func := "groove/groovelaw48.TenengoltsPartition", spec := "tenengoltsPartition", inPlace := ["internal/abi.NoEscape", "internal/bytealg.MakeNoZero", "internal/bytealg.IndexByteString"], unfollowed := true, recurses := true, apart := false, narrowed := true }
def TenengoltsPartitionUptoSaid : Prop := tenengoltsPartitionUptoRow.holds Try.pinned (OpenSpec.upto tenengoltsPartitionSpec)

/-- 'groovelaw48.TenengoltsPerfect', WHERE WHAT IT READS IS OF BULK AT MOST 1048576: true; the input reads as it did. -/
def tenengoltsPerfectUptoRow : OpenClaim := { program := "ytijeogengbphdaa", sum := "c1cae406718cd6f773c6f18b6d38759414637ab7fb7d821d5d251c70ca325676", func := "groove/groovelaw48.TenengoltsPerfect", spec := "tenengoltsPerfect", inPlace := ["internal/abi.NoEscape", "internal/bytealg.MakeNoZero", "internal/bytealg.IndexByteString"], unfollowed := true, recurses := true, apart := false, narrowed := true }
def TenengoltsPerfectUptoSaid : Prop := tenengoltsPerfectUptoRow.holds Try.pinned (OpenSpec.upto tenengoltsPerfectSpec)

/-- 'groovelaw48.TenengoltsDisjoint', WHERE WHAT IT READS IS OF BULK AT MOST 1048576: true; the input reads as it did. -/
def tenengoltsDisjointUptoRow : OpenClaim := { program := "ytijeogengbphdaa", sum := "c1cae406718cd6f773c6f18b6d38759414637ab7fb7d821d5d251c70ca325676", func := "groove/groovelaw48.TenengoltsDisjoint", spec := "tenengoltsDisjoint", inPlace := ["internal/abi.NoEscape", "internal/bytealg.MakeNoZero", "internal/bytealg.IndexByteString"], unfollowed := true, recurses := true, apart := false, narrowed := true }
def TenengoltsDisjointUptoSaid : Prop := tenengoltsDisjointUptoRow.holds Try.pinned (OpenSpec.upto tenengoltsDisjointSpec)

end Rows
end Go.Proofs.Ytijeogengbphdaa
