import Derived.Test.YtbnpjoiojhnimaaGreatDoorG11
import Derived.RangeFuncNested
import Derived.RangeFuncBound
import Derived.RangeFuncCalls
import Derived.RangeFuncLeaves
import Derived.RangeFuncFrom
import Derived.Shelf.Abstract
import Derived.Shelf.RegionOpen
set_option linter.unusedSimpArgs false
set_option linter.unusedVariables false
/- matrix.scalar, sum, trace, and the closures of scalar, sum, Adjugate: their contracts. -/
namespace Go.Proofs.YtbnpjoiojhnimaaGreatDoor
open Go.RowKit Go.Shelf
set_option maxRecDepth 100000 in
set_option maxHeartbeats 1000000 in
theorem mxScalarf_any (i k c : Nat) (z : Int) (w : World) (hc : ResI w c (ng z) (mgI z)) (hcl : c < w.heap.size) :
  Calls Tryz.prog 186 #[.int .i64 (i : Int), .int .i64 (k : Int), .pointer (some ⟨c, 0, none⟩)] w fun e w' => e = .returned (.agg #[.bool (ng (if i = k then z else 0)), .string (mgI (if i = k then z else 0))]) ∧ Below w.heap.size w w' := by
 have hk0 : ResI (w.alloc (Obj.cells #[Value.bool false, Value.string { data := #[] }] 55)) w.heap.size false ⟨#[]⟩ := ResI.new_ w _ _
 have hB0 : Below w.heap.size w (w.alloc (Obj.cells #[Value.bool false, Value.string { data := #[] }] 55)) := (Below.refl _ w).alloc (Nat.le_refl _) _
 have hc0 := hc.below hB0 hcl
 have f0 := hc0.c0
 have f1 := hc0.c1
 by_cases h : i = k
 ·have hb : ((i : Int) == (k : Int)) = true := by rw [beq_iff_eq]; omega
  rw [if_pos h]
  clear h hc hc0
  go_enter Tryz.func186, Tryz.ntmps186
  go_wp2
  refine bodyPost_ret (ret_apiInt rfl _ _ w.heap.size _ rfl (ResI.new_ w _ _) rfl) rfl ?_
  exact ⟨rfl, (Below.refl _ w).alloc (Nat.le_refl _) _⟩
 ·have hb : ((i : Int) == (k : Int)) = false := by rw [beq_eq_false_iff_ne]; omega
  rw [if_neg h, mgI_zero]
  clear h hc hc0
  go_enter Tryz.func186, Tryz.ntmps186
  go_wp2
  refine bodyPost_ret (ret_apiInt rfl _ _ w.heap.size _ rfl (ResI.new_ w _ _) rfl) rfl ?_
  exact ⟨rfl, (Below.refl _ w).alloc (Nat.le_refl _) _⟩
set_option maxRecDepth 100000 in
set_option maxHeartbeats 1000000 in
theorem mxScalar_any (n : Nat) (z : Int) (w : World) (hn : n ≤ 40) :
  Calls Tryz.prog 119 #[.agg #[.bool (ng z), .string (mgI z)], .int .i64 (n : Int)] w fun e w' => ∃ G, e = .returned (.slice (some ⟨G, 0, none⟩) n n) ∧ MatL w.heap.size w' G n n (fun i k => if i = k then z else 0) ∧ Below w.heap.size w w' := by
 have hc := ResI.new_ w (ng z) (mgI z)
 have hB0 : Below w.heap.size w (w.alloc (Obj.cells #[Value.bool (ng z), Value.string (mgI z)] 55)) := (Below.refl _ w).alloc (Nat.le_refl _) _
 have hs0 : (w.alloc (Obj.cells #[Value.bool (ng z), Value.string (mgI z)] 55)).heap.size = w.heap.size + 1 := by simp
 obtain ⟨c, hcc⟩ : ∃ c, w.heap.size = c := ⟨_, rfl⟩
 rw [hcc] at hc hB0 hs0 ⊢
 have HT := hide (mxTable1_any 186 (.pointer (some ⟨c, 0, none⟩)) n n (fun i k => if i = k then z else 0) (w.alloc (Obj.cells #[Value.bool (ng z), Value.string (mgI z)] 55)) hn hn (enters_of Tryz.func186 (by kernel_rfl) rfl)
  (hide fun i k W hi hk hW => mxScalarf_any i k c z W (hc.below hW (by rw [hs0]; omega)) (by have := hW.size; omega)))
 have HCC := hide hcc
 go_enter Tryz.func119, Tryz.ntmps119
 go_wp2_with fail
 (with_reducible refine HT.out.mono ?_)
 rintro e w' ⟨G, rfl, hM, hB⟩
 have HM := hide (hM.mono (by rw [hs0]; omega : c ≤ _))
 have HB := hide (hB0.trans (hB.mono (by rw [hs0]; omega)))
 clear hM hB hc hB0 hs0 hcc
 go_wp2
 go_ret
 exact ⟨G, rfl, HM.out, HB.out⟩
set_option maxRecDepth 100000 in
set_option maxHeartbeats 1000000 in
theorem mxAdjf_any (G m n c i k : Nat) (f : Nat → Nat → Int) (w : World) (hi : i < m) (hk : k < n) (hM : Mat w G m n f) (hc : w.cell? ⟨c, 0, none⟩ = some (.slice (some ⟨G, 0, none⟩) m m)) (hs : Sml (f i k).natAbs) :
  Calls Tryz.prog 71 #[.int .i64 (i : Int), .int .i64 (k : Int), .pointer (some ⟨c, 0, none⟩)] w fun e w' => e = .returned (.agg #[.bool (ng (-(f i k))), .string (mgI (-(f i k)))]) ∧ Below w.heap.size w w' := by
 have hk0 : ResI (w.alloc (Obj.cells #[Value.bool false, Value.string { data := #[] }] 55)) w.heap.size false ⟨#[]⟩ := ResI.new_ w _ _
 have hB0 : Below w.heap.size w (w.alloc (Obj.cells #[Value.bool false, Value.string { data := #[] }] 55)) := (Below.refl _ w).alloc (Nat.le_refl _) _
 have hs0 : (w.alloc (Obj.cells #[Value.bool false, Value.string { data := #[] }] 55)).heap.size = w.heap.size + 1 := by simp
 obtain ⟨R, hR, h1, h2⟩ := hM.read hi
 obtain ⟨h3, h4⟩ := h2 k hk
 have hcl := World.block_lt_of_cell? w _ hc
 have e0 := (hB0.cell (p := ⟨c, 0, none⟩) hcl).trans hc
 have e1 := (hB0.cell (p := ⟨G, i, none⟩) hM.lt).trans h1
 have e3 := (hB0.cell (p := ⟨R, k * 2, none⟩) hR).trans h3
 have e4 := (hB0.cell (p := ⟨R, k * 2 + 1, none⟩) hR).trans h4
 have i0 : (0 : Int) ≤ (i : Int) := by omega
 have i1 : (i : Int) < (m : Int) := by omega
 have j0 : (0 : Int) ≤ (k : Int) := by omega
 have j1 : (k : Int) < (n : Int) := by omega
 obtain ⟨x, hx⟩ : ∃ x, f i k = x := ⟨_, rfl⟩
 rw [hx] at e3 e4 hs ⊢
 have HN := hide (fun W => iNeg_g x W hs)
 clear hM hc h1 h2 h3 h4 hx hs
 go_enter Tryz.func71, Tryz.ntmps71
 go_wp2_with fail
 generalize w.alloc (Obj.cells #[Value.bool false, Value.string { data := #[] }] 55) = W0 at hk0 hB0 hs0 e0 e1 e3 e4 ⊢
 (with_reducible refine (HN.out _).mono ?_)
 rintro e w1 ⟨rfl, hB1⟩
 have hk1 := hk0.below hB1 (by omega)
 have y0 := hk1.c0
 have y1 := hk1.c1
 have z0 := hk1.z0
 have z1 := hk1.z1
 go_wp2
 refine bodyPost_ret (ret_apiInt rfl _ _ w.heap.size _ rfl (hk1.set_ _ _) rfl) rfl ?_
 exact ⟨rfl, Below.pair (hB0.trans (hB1.mono (by omega))) (Nat.le_refl _) _ _⟩
end Go.Proofs.YtbnpjoiojhnimaaGreatDoor
