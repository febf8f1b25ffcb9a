import Derived.Test.YtbnpjoiojhnimaaGreatDoorG37
import Derived.Test.YtbnpjoiojhnimaaGreatDoorG22
set_option linter.unusedSimpArgs false
set_option linter.unusedVariables false
/- graph.Make: its contract. -/
namespace Go.Proofs.YtbnpjoiojhnimaaGreatDoor
open Go.RowKit
theorem Eds.own_ge {w : World} {B : Nat} {v : Value} {xs : List Edg} (h : Eds w B v xs) {k : Nat} (e : some k = v.ownBlock) : B ≤ k := (World.ownsRow.lt h k e.symm).1
theorem Eds.grown_below {w w' : World} {B : Nat} {v : Value} {xs : List Edg} {W : World} (h : Eds w B v xs) (hB : Below B W w) (hg : w.grownBy w' v.ownBlock) (hz : B ≤ w.heap.size) : Below B W w' :=
 hB.grown hg hz (fun k e => (World.ownsRow.lt h k e).1)
theorem compactE_any (B : Nat) (v : Value) (xs : List Edg) (w : World) (h : Eds w B v xs) (hm : xs.length ≤ 4294967296) :
  Calls Tryz.prog 226 #[v] w fun e w' => CmpP w' xs.length v.ownBlock e ∧ w.grownBy w' v.ownBlock := by
 rcases h.2 with ⟨rfl, h0⟩ | ⟨g, cap, cur, rfl, hbg, hg, hn, hmx, hs, ht⟩
 ·clear h
  go_enter Tryz.func226, Tryz.ntmps226
  go_wp2
  go_ret
  exact ⟨⟨none, 0, [], rfl, Nat.zero_le _, fun h => absurd h (by simp), fun a e => by cases e⟩, World.grownBy.refl _ _⟩
 ·refine compactE_blk g xs.length cap w ⟨cur, hg, fun j hj => ?_⟩ hn hm
  have hc := Eds.block_cells hg ht j hj
  rw [cell_of_row w g j _ _ _ hg] at hc
  have hk : j / 3 < xs.length := by omega
  have e := eds_at xs (j / 3) hk (j % 3) (Nat.mod_lt _ (by decide))
  rw [show j / 3 * 3 + j % 3 = j by omega] at e
  rw [hc, e]
  have h3 : j % 3 < 3 := Nat.mod_lt _ (by decide)
  have : j % 3 = 0 ∨ j % 3 = 1 ∨ j % 3 = 2 := by omega
  rcases this with e | e | e <;> simp [e, Edg.cells]
def MkP (w : World) (L N : Int) (e : Ending) : Prop := ∃ (gv : Array Value) (r : Int), e = .returned (.tuple #[.agg gv, .int .i64 r]) ∧ gv.size = 3 ∧ (r = 0 → ∃ (A : Option Addr) (c : Nat) (ys : List Edg), gv = #[.int .i64 L, .int .i64 N, .slice A ys.length c] ∧ RowE w A ys ∧ okG L N ys = true) ∧ (r ≠ 0 → gv = #[.int .i64 0, .int .i64 0, .slice none 0 0])
set_option maxRecDepth 100000 in
set_option maxHeartbeats 4000000 in
theorem grMake_any (L N : Int) (B : Nat) (v : Value) (xs : List Edg) (w : World) (h : Eds w B v xs) (hm : xs.length ≤ 4294967296) :
  Calls Tryz.prog 170 #[.int .i64 L, .int .i64 N, v] w fun e w' => MkP w' L N e ∧ Below w.heap.size w w' := by
 obtain ⟨Z, hZ⟩ : ∃ Z, w.heap.size = Z := ⟨_, rfl⟩
 obtain ⟨W0, hW0⟩ : ∃ W0, W0 = w.alloc (.cells #[.int .i64 0, .int .i64 0, .slice none 0 0] 24) := ⟨_, rfl⟩
 have hB0 : Below Z w W0 := by rw [hW0, ← hZ]; exact (Below.refl _ w).alloc (Nat.le_refl _) _
 have hb0 : W0.heap[Z]? = some (.cells #[.int .i64 0, .int .i64 0, .slice none 0 0] 24 (0, 0)) := by rw [hW0, ← hZ]; exact heap_alloc_new w _
 have hz0 : W0.heap.size = Z + 1 := by rw [hW0]; simp; omega
 have HCl := hide (show Calls Tryz.prog 224 #[v] W0 fun e w' => ∃ v', e = .returned v' ∧ Eds w' W0.heap.size v' xs ∧ W0.grownBy w' none from cloneE_any B v xs W0 (by rw [hW0]; exact h.alloc _) hm)
 obtain ⟨ad, cp, rfl⟩ := h.shape
 have HZ := hide hZ
 rw [hZ]
 clear h hZ
 go_enter Tryz.func170, Tryz.ntmps170
 rw [← HZ.out] at hb0
 go_wp2_with fail
 rw [HZ.out] at hb0 ⊢
 rw [← hW0]
 (with_reducible refine HCl.out.mono ?_)
 rintro e w1 ⟨v', rfl, hE1, hg1⟩
 rw [hz0] at hE1
 have hB1 : Below (Z + 1) W0 w1 := (Below.refl _ W0).grown hg1 (by omega) (fun k e => by cases e)
 have hz1 : Z + 1 ≤ w1.heap.size := by have := hB1.size; omega
 obtain ⟨ad1, cp1, rfl⟩ := hE1.shape
 have hE2 := hE1.alloc (.cells #[.func (.func 80) #[] #[]] 120)
 have hB2 : Below (Z + 1) W0 (w1.alloc (.cells #[.func (.func 80) #[] #[]] 120)) := hB1.alloc (by omega) _
 have hc2 := (cell_of_row _ _ 0 _ _ _ (heap_alloc_new w1 (.cells #[.func (.func 80) #[] #[]] 120))).trans rfl
 simp only [List.getElem?_toArray, List.getElem?_cons_zero] at hc2
 have hne : some w1.heap.size ≠ (Value.slice ad1 xs.length cp1).ownBlock := fun e => by have := (World.ownsRow.lt hE1 _ e.symm).2; omega
 have HSo := hide (sortE_any (Z + 1) _ xs _ hE2 hm w1.heap.size hc2 hne)
 have HBy := hide (grBy_any w1)
 have HB2 := hide hB2
 have HE2 := hide hE2
 have hz2 : Z + 1 ≤ (w1.alloc (.cells #[.func (.func 80) #[] #[]] 120)).heap.size := by simp; omega
 clear hE1 hg1 hB1 hE2 hB2 hc2 hne HCl
 go_wp2_with fail
 (with_reducible refine HBy.out.mono ?_)
 rintro e w2 ⟨rfl, rfl⟩
 clear HBy
 generalize w1.alloc (.cells #[.func (.func 80) #[] #[]] 120) = w2 at HSo HB2 HE2 hz2 ⊢
 go_wp2_with fail
 (with_reducible refine HSo.out.mono ?_)
 rintro e w3 ⟨rfl, ⟨ys, hyl, hE3⟩, hg3⟩
 have HB3 := hide (HE2.out.grown_below HB2.out hg3 hz2)
 have hz3 : Z + 1 ≤ w3.heap.size := Nat.le_trans hz2 hg3.size
 have HCp := hide (compactE_any (Z + 1) _ ys w3 hE3 (by omega))
 have HE3 := hide hE3
 clear hE3 hg3 HSo HE2 HB2 hz2
 go_wp2_with fail
 (with_reducible refine HCp.out.mono ?_)
 rintro e w4 ⟨⟨A, c, zs, rfl, hzl, hR4, hA4⟩, hg4⟩
 have HB4 := hide (HE3.out.grown_below HB3.out hg4 hz3)
 have hz4 : Z + 1 ≤ w4.heap.size := Nat.le_trans hz3 hg4.size
 have hAZ : ∀ a, A = some a → a.block ≠ Z := fun a e => by
  have := (World.ownsRow.lt HE3.out a.block (hA4 a e).symm).1
  omega
 obtain ⟨W5, hW5⟩ : ∃ W5, W5 = w4.alloc (.cells #[.int .i64 L, .int .i64 N, .slice A zs.length c] 24) := ⟨_, rfl⟩
 obtain ⟨Y, hY⟩ : ∃ Y, w4.heap.size = Y := ⟨_, rfl⟩
 have hb5 : W5.heap[Y]? = some (.cells #[.int .i64 L, .int .i64 N, .slice A zs.length c] 24 (0, 0)) := by rw [hW5, ← hY]; exact heap_alloc_new w4 _
 have hz5 : W5.heap.size = Y + 1 := by rw [hW5]; simp; omega
 have hB5 : Below (Z + 1) W0 W5 := by rw [hW5]; exact HB4.out.alloc (by omega) _
 have hR5 : RowE W5 A zs := by rw [hW5]; exact hR4.below ((Below.refl _ w4).alloc (Nat.le_refl _) _)
 have HCk := hide (grCheck_any L N zs A c W5 hR5)
 obtain ⟨y0, y1, y2, _⟩ := at3 hb5
 have HY := hide hY
 clear hR4 hg4 hA4 HB4 HE3 HB3 HCp hY
 rw [← HY.out] at y0 y1 y2
 rw [hW5] at y0 y1 y2
 go_wp2_with fail
 rw [← hW5]
 (with_reducible refine HCk.out.mono ?_)
 rintro e w6 ⟨r, rfl, hr0, hB6⟩
 have hX6 : Below (Z + 1) W0 w6 := hB5.trans (hB6.mono (by rw [hz5, ← HY.out]; omega))
 have k1 := (hX6.block Z (by omega)).trans hb0
 have l1 := (hB6.block Y (by omega)).trans hb5
 have hR6 := hR5.below hB6
 have hX7 : Below Z w w6 := hB0.trans (hX6.mono (by omega))
 try rw [HY.out]
 clear hB6 hR5 HCk hB5 hX6 hB0 y0 y1 y2 hW5
 obtain ⟨a0, a1, a2, af⟩ := at3 k1
 obtain ⟨b0, b1, b2, _⟩ := at3 l1
 have HR := hide hr0
 clear hr0
 by_cases h0 : r = 0
 ·subst h0
  go_wp2
  refine bodyPost_ret (ret_graphE rfl _ _ Z _ rfl (set3 k1 (.int .i64 L) (.int .i64 N) (.slice A zs.length c)) rfl) rfl ?_
  exact ⟨⟨_, 0, rfl, rfl, fun _ => ⟨A, c, zs, rfl, hR6.set3 hAZ _ _ _, by rw [← HR.out]; rfl⟩, fun h => absurd rfl h⟩, below_set3 hX7 (Nat.le_refl _) _ _ _⟩
 ·have h1 : (r != 0) = true := bne_iff_ne.2 h0
  go_wp2
  refine bodyPost_ret (ret_graphE rfl _ _ Z _ rfl (set3 k1 (.int .i64 0) (.int .i64 0) (.slice none 0 0)) rfl) rfl ?_
  exact ⟨⟨_, r, rfl, rfl, fun e => absurd e h0, fun _ => rfl⟩, below_set3 hX7 (Nat.le_refl _) _ _ _⟩
end Go.Proofs.YtbnpjoiojhnimaaGreatDoor
