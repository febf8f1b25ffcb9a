/- What the walks of groovelaw44 share: the results of Shortest, Pairs and Greedy in letters. -/
import Derived.Test.YtmokccidpnpimaaDoorRAp
import Derived.Test.YtmokccidpnpimaaDoorAw44
set_option linter.unusedVariables false
namespace Go.Proofs.YtmokccidpnpimaaDoor
open Go.RowKit Go.Maps
theorem shrV_form (L : Int) (rows : List (List Int)) : ∃ v b e, shrV L rows = .tuple #[.string v, .bool b, .int .i64 e] := by
  unfold shrV
  split
  · exact ⟨_, _, _, rfl⟩
  · exact ⟨_, _, _, rfl⟩
theorem prsV_form (L : Int) (rows : List (List Int)) : ∃ b e, prsV L rows = .tuple #[.bool b, .int .i64 e] := by
  unfold prsV
  split
  · exact ⟨_, _, rfl⟩
  · exact ⟨_, _, rfl⟩
theorem gryV_form (L : Int) (rows : List (List Int)) : ∃ v e, gryV L rows = .tuple #[.string v, .int .i64 e] := by
  unfold gryV
  split
  · split
    · exact ⟨_, _, rfl⟩
    · exact ⟨_, _, rfl⟩
  · exact ⟨_, _, rfl⟩
/-- a box below: what it holds further on -/
theorem BoxA.b0 {W1 W : World} {B : Nat} {L : Int} {A : Option Addr} {n cc : Nat} (h : BoxA W1 B L A n cc) (hB : Below (B + 1) W1 W) : W.cell? ⟨B, 0, none⟩ = some (.int .i64 L) := (hB.cell (p := ⟨B, 0, none⟩) (Nat.lt_succ_self B)).trans h.c0
theorem BoxA.b1 {W1 W : World} {B : Nat} {L : Int} {A : Option Addr} {n cc : Nat} (h : BoxA W1 B L A n cc) (hB : Below (B + 1) W1 W) : W.cell? ⟨B, 1, none⟩ = some (.slice A n cc) := (hB.cell (p := ⟨B, 1, none⟩) (Nat.lt_succ_self B)).trans h.c1
theorem Below.go {C : Nat} {W1 W w' : World} (h : Below C W1 W) (hC : C ≤ W1.heap.size) (k : Below W.heap.size W w') : Below C W1 w' := h.trans (k.mono (Nat.le_trans hC h.size))
end Go.Proofs.YtmokccidpnpimaaDoor
