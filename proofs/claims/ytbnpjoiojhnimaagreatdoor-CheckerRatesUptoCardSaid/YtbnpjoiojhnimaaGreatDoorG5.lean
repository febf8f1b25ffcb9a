import Derived.Test.YtbnpjoiojhnimaaGreatDoorG3
import Derived.Test.YtbnpjoiojhnimaaGreatDoorG4
set_option linter.unusedSimpArgs false
set_option linter.unusedVariables false
/- Rows of integers, rows of rows of integers that came in (no program in sight but the frame). -/
namespace Go.Proofs.YtbnpjoiojhnimaaGreatDoor
open Go.RowKit
theorem belowN {B : Nat} {a w : World} (h : Below B a w) (n : Nat) : Below B a (w.drewN n) := ⟨h.os, h.tape, h.output, h.size, h.block⟩
def RowI (w : World) (A : Option Addr) (zs : List Int) : Prop := 0 < zs.length → ∃ b o, A = some ⟨b, o, none⟩ ∧ b < w.heap.size ∧ ∀ k (hk : k < zs.length), w.cell? ⟨b, o + k, none⟩ = some (.int .i64 zs[k])
theorem RowI.below {w w' : World} {A : Option Addr} {zs : List Int} (h : RowI w A zs) (hB : Below w.heap.size w w') : RowI w' A zs := by
 intro h0
 obtain ⟨b, o, h1, h2, h3⟩ := h h0
 exact ⟨b, o, h1, Nat.lt_of_lt_of_le h2 hB.size, fun k hk => (hB.cell (p := ⟨b, o + k, none⟩) h2).trans (h3 k hk)⟩
def RowD (w : World) (A : Option Addr) (ds : List (List Int)) : Prop := 0 < ds.length → ∃ b o, A = some ⟨b, o, none⟩ ∧ b < w.heap.size ∧ ∀ k (hk : k < ds.length), ∃ D c, w.cell? ⟨b, o + k, none⟩ = some (.slice D ds[k].length c) ∧ RowI w D ds[k]
theorem RowD.below {w w' : World} {A : Option Addr} {ds : List (List Int)} (h : RowD w A ds) (hB : Below w.heap.size w w') : RowD w' A ds := by
 intro h0
 obtain ⟨b, o, h1, h2, h3⟩ := h h0
 refine ⟨b, o, h1, Nat.lt_of_lt_of_le h2 hB.size, fun k hk => ?_⟩
 obtain ⟨D, c, c3, hd⟩ := h3 k hk
 exact ⟨D, c, (hB.cell (p := ⟨b, o + k, none⟩) h2).trans c3, hd.below hB⟩
theorem RowD.drewN {w : World} {A : Option Addr} {ds : List (List Int)} (h : RowD w A ds) (q : Nat) : RowD (w.drewN q) A ds := h
end Go.Proofs.YtbnpjoiojhnimaaGreatDoor
