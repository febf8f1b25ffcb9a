import Derived.Test.YtbnpjoiojhnimaaGreatDoorG22
import Derived.Test.YtbnpjoiojhnimaaGreatDoorSte
import Derived.Sort.OwnSorted
import Derived.Deep.RegionHeld3
set_option linter.unusedSimpArgs false
set_option linter.unusedVariables false
/- slices.SortFunc at rows of edges that the call owns. -/
namespace Go.Proofs.YtbnpjoiojhnimaaGreatDoor
open Go.RowKit Go.Shelf Go.Sort
instance : Inhabited Edg := ⟨⟨0, 0, 0⟩⟩
def Gw (a w : World) : Prop := ∃ q os, w = grow (a.drewN q) os
theorem Gw.refl (a : World) : Gw a a := ⟨0, #[], by simp [grow, World.drewN]⟩
theorem Gw.alloc {a w : World} (h : Gw a w) (o : Obj) : Gw a (w.alloc o) := by
 obtain ⟨q, os, rfl⟩ := h
 exact ⟨q, os ++ #[o], by rw [alloc_eq_grow, grow_grow]⟩
theorem Gw.trans {a b c : World} (h1 : Gw a b) (h2 : Gw b c) : Gw a c := by
 obtain ⟨q, os, rfl⟩ := h1
 obtain ⟨p, ps, rfl⟩ := h2
 exact ⟨q + p, os ++ ps, by simp [grow, World.drewN, Nat.add_assoc, Array.append_assoc]⟩
theorem Gw.drew {a w : World} (h : Gw a w) : Gw a w.drew := h.trans ⟨1, #[], (grow_empty _).symm⟩
theorem Gw.below {a w : World} (h : Gw a w) : Below a.heap.size a w := by
 obtain ⟨q, os, rfl⟩ := h
 exact ⟨rfl, rfl, rfl, by simp [grow, World.drewN], fun b hb => heap_grow_old _ _ hb⟩
theorem grList_g (e : Edg) (w : World) :
  Calls Tryz.prog 80 #[.agg #[.int .i64 e.f, .int .i64 e.l, .int .i64 e.t]] w fun en w' => ∃ g, en = .returned (.slice (some ⟨g, 0, none⟩) 3 3) ∧ RowI w' (some ⟨g, 0, none⟩) e.list ∧ Gw w w' := by
 refine (grList_any e w).mono ?_
 rintro en w' ⟨rfl, rfl⟩
 refine ⟨_, rfl, fun _ => ⟨w.heap.size + 1, 0, rfl, by simp, fun k hk => ?_⟩, ((Gw.refl w).alloc _).alloc _⟩
 have h := heap_alloc_new (w.alloc (.cells #[.int .i64 e.f, .int .i64 e.l, .int .i64 e.t] 72)) (.cells #[.int .i64 e.f, .int .i64 e.l, .int .i64 e.t] 3)
 rw [World.size_alloc] at h
 rw [Nat.zero_add, cell_of_row _ _ k _ 3 (0, 0) h]
 have hk3 : k < 3 := hk
 have : k = 0 ∨ k = 1 ∨ k = 2 := by omega
 rcases this with rfl | rfl | rfl <;> rfl
set_option maxRecDepth 100000 in
set_option maxHeartbeats 2000000 in
theorem grByf_g (a b : Edg) (c : Nat) (w : World) (hc : w.cell? ⟨c, 0, none⟩ = some (.func (.func 80) #[] #[])) :
  Calls Tryz.prog 125 #[.agg #[.int .i64 a.f, .int .i64 a.l, .int .i64 a.t], .agg #[.int .i64 b.f, .int .i64 b.l, .int .i64 b.t], .pointer (some ⟨c, 0, none⟩)] w fun en w' => en = .returned (.int .i64 (a.cmp b)) ∧ Gw w w' := by
 have hB0 : Gw w ((w.alloc (.cells #[.int .i64 a.f, .int .i64 a.l, .int .i64 a.t] 72)).alloc (.cells #[.int .i64 b.f, .int .i64 b.l, .int .i64 b.t] 72)) := ((Gw.refl w).alloc _).alloc _
 have hs0 : ((w.alloc (.cells #[.int .i64 a.f, .int .i64 a.l, .int .i64 a.t] 72)).alloc (.cells #[.int .i64 b.f, .int .i64 b.l, .int .i64 b.t] 72)).heap.size = w.heap.size + 1 + 1 := by simp
 have ha : ((w.alloc (.cells #[.int .i64 a.f, .int .i64 a.l, .int .i64 a.t] 72)).alloc (.cells #[.int .i64 b.f, .int .i64 b.l, .int .i64 b.t] 72)).heap[w.heap.size]? = some (.cells #[.int .i64 a.f, .int .i64 a.l, .int .i64 a.t] 72 (0, 0)) := by
  rw [Below.heap_alloc _ _ _ (by simp)]; exact heap_alloc_new w _
 have hb : ((w.alloc (.cells #[.int .i64 a.f, .int .i64 a.l, .int .i64 a.t] 72)).alloc (.cells #[.int .i64 b.f, .int .i64 b.l, .int .i64 b.t] 72)).heap[w.heap.size + 1]? = some (.cells #[.int .i64 b.f, .int .i64 b.l, .int .i64 b.t] 72 (0, 0)) := by
  have := heap_alloc_new (w.alloc (.cells #[.int .i64 a.f, .int .i64 a.l, .int .i64 a.t] 72)) (.cells #[.int .i64 b.f, .int .i64 b.l, .int .i64 b.t] 72)
  rw [World.size_alloc] at this
  exact this
 have hcc := (hB0.below.cell (p := ⟨c, 0, none⟩) (World.block_lt_of_cell? w _ hc)).trans hc
 obtain ⟨Z, hZ⟩ : ∃ Z, w.heap.size = Z := ⟨_, rfl⟩
 have hcl : c < Z := by rw [← hZ]; exact World.block_lt_of_cell? w _ hc
 rw [hZ] at hs0 ha hb
 have HZ := hide hZ
 have HL := hide (fun e W => grList_g e W)
 have HC := hide (fun A A' W h1 h2 => slCompare3 a b A A' W h1 h2)
 clear hc hZ
 go_enter Tryz.func125, Tryz.ntmps125
 go_wp2_with fail
 try rw [HZ.out]
 generalize (w.alloc (.cells #[.int .i64 a.f, .int .i64 a.l, .int .i64 a.t] 72)).alloc (.cells #[.int .i64 b.f, .int .i64 b.l, .int .i64 b.t] 72) = W0 at hB0 hs0 ha hb hcc ⊢
 have hall := hide (show ∀ W, Gw W0 W → W.cell? ⟨c, 0, none⟩ = some (.func (.func 80) #[] #[]) ∧ W.cell? ⟨Z, 0, none⟩ = some (.int .i64 a.f) ∧ W.cell? ⟨Z, 1, none⟩ = some (.int .i64 a.l) ∧ W.cell? ⟨Z, 2, none⟩ = some (.int .i64 a.t) ∧ W.cell? ⟨Z + 1, 0, none⟩ = some (.int .i64 b.f) ∧ W.cell? ⟨Z + 1, 1, none⟩ = some (.int .i64 b.l) ∧ W.cell? ⟨Z + 1, 2, none⟩ = some (.int .i64 b.t) from fun W hW => by
  have hW := hW.below
  have l0 : Z < W0.heap.size := by omega
  have l1 : Z + 1 < W0.heap.size := by omega
  refine ⟨(hW.cell (p := ⟨c, 0, none⟩) (by show c < _; omega)).trans hcc, (hW.cell (p := ⟨Z, 0, none⟩) l0).trans ?_, (hW.cell (p := ⟨Z, 1, none⟩) l0).trans ?_, (hW.cell (p := ⟨Z, 2, none⟩) l0).trans ?_, (hW.cell (p := ⟨Z + 1, 0, none⟩) l1).trans ?_, (hW.cell (p := ⟨Z + 1, 1, none⟩) l1).trans ?_, (hW.cell (p := ⟨Z + 1, 2, none⟩) l1).trans ?_⟩
  ·rw [cell_of_row _ _ 0 _ 72 (0, 0) ha]; rfl
  ·rw [cell_of_row _ _ 1 _ 72 (0, 0) ha]; rfl
  ·rw [cell_of_row _ _ 2 _ 72 (0, 0) ha]; rfl
  ·rw [cell_of_row _ _ 0 _ 72 (0, 0) hb]; rfl
  ·rw [cell_of_row _ _ 1 _ 72 (0, 0) hb]; rfl
  ·rw [cell_of_row _ _ 2 _ 72 (0, 0) hb]; rfl)
 have hAcc : Gw W0 W0.drew := (Gw.refl _).drew
 clear ha hb hcc
 have tok : True := trivial
 go_region_held3 (fun W => W.cell? ⟨c, 0, none⟩ = some (.func (.func 80) #[] #[]) ∧ W.cell? ⟨Z, 0, none⟩ = some (.int .i64 a.f) ∧ W.cell? ⟨Z, 1, none⟩ = some (.int .i64 a.l) ∧ W.cell? ⟨Z, 2, none⟩ = some (.int .i64 a.t) ∧ W.cell? ⟨Z + 1, 0, none⟩ = some (.int .i64 b.f) ∧ W.cell? ⟨Z + 1, 1, none⟩ = some (.int .i64 b.l) ∧ W.cell? ⟨Z + 1, 2, none⟩ = some (.int .i64 b.t))
  (with_reducible exact hall.out _ hAcc)
  (first
   | (go_at_call 80; have t2 := tok; (with_reducible refine (HL.out a _).mono ?_); rintro e w1 ⟨g1, rfl, hr1, hB1⟩; clear tok; have tok2 := t2; replace hAcc := hAcc.trans hB1)
   | (go_at_call 80; have t3 := tok2; (with_reducible refine (HL.out b _).mono ?_); rintro e w2 ⟨g2, rfl, hr2, hB2⟩; replace hr1 := hr1.below hB2.below; replace hAcc := hAcc.trans hB2)
   | (go_at_call 126; (with_reducible refine (HC.out _ _ _ hr1 hr2).mono ?_); rintro e w3 ⟨rfl, rfl⟩))
 all_goals (
  go_wp2
  go_ret
  exact ⟨rfl, hB0.trans hAcc⟩)
theorem Edg.cmp_lt (a b : Edg) : a.cmp b < 0 ↔ a.f < b.f ∨ (a.f = b.f ∧ (a.l < b.l ∨ (a.l = b.l ∧ a.t < b.t))) := by
 unfold Edg.cmp Edg.list
 simp only [cmpLI]
 repeat' split
 all_goals omega
theorem ltOf_E (a b : Edg) : ltOf Edg.cmp a b = decide (a.cmp b < 0) := rfl
theorem swoE : SWO (ltOf Edg.cmp) where
 irrefl x := by rw [ltOf_E, decide_eq_false_iff_not, Edg.cmp_lt]; omega
 trans x y z h1 h2 := by
  rw [ltOf_E, decide_eq_true_eq, Edg.cmp_lt] at *
  omega
 ntrans x y z h1 h2 := by
  rw [ltOf_E, decide_eq_false_iff_not, Edg.cmp_lt] at *
  omega
theorem cmpLaysE (c blk off size : Nat) (w : World) (hc : w.cell? ⟨c, 0, none⟩ = some (.func (.func 80) #[] #[])) (hne : c ≠ blk) : CmpLays Tryz.prog 125 #[.pointer (some ⟨c, 0, none⟩)] Edg.cells 3 Edg.cmp blk off size w := by
 intro m os dk hs x y
 refine (grByf_g x y c _ ?_).mono ?_
 ·unfold sortWorldK
  have hlt := World.block_lt_of_cell? w _ hc
  rw [cell?_grow _ _ _ (by simpa [putRowK, Sort.ahead] using hlt), cell?_putRowK_other _ _ _ _ _ _ _ hne]
  exact hc
 ·rintro e w' ⟨rfl, q, os', rfl⟩
  exact ⟨rfl, q, os', rfl⟩
theorem eds_len (xs : List Edg) : (xs.flatMap Edg.cells).length = xs.length * 3 := by
 induction xs with
 | nil => rfl
 | cons x xs ih => rw [List.flatMap_cons, List.length_append, ih]; simp [Edg.cells]; omega
theorem eds_at (xs : List Edg) (k : Nat) (hk : k < xs.length) (j : Nat) (hj : j < 3) : (xs.flatMap Edg.cells)[k * 3 + j]? = some ((xs[k].cells)[j]'(by simp [Edg.cells]; omega)) := by
 induction xs generalizing k with
 | nil => simp at hk
 | cons x xs ih =>
  rw [List.flatMap_cons]
  cases k with
  | zero => rw [List.getElem?_append_left (by simp [Edg.cells]; omega)]; simp [Edg.cells]
  | succ k =>
   rw [List.getElem?_append_right (by simp [Edg.cells]; omega)]
   have := ih k (by simpa using hk)
   simp only [List.getElem_cons_succ]
   rw [← this]
   congr 1
   simp [Edg.cells]; omega
theorem flatE (ys : List Edg) : flatK Edg.cells 3 ys.toArray = (ys.flatMap Edg.cells).toArray := by
 refine ext_get! (by simp only [size_flatK, List.size_toArray, eds_len]) fun t ht => ?_
 have ht' : t < ys.length * 3 := by simpa using ht
 have hk : t / 3 < ys.length := by omega
 have hj : t % 3 < 3 := by omega
 rw [get_flatK _ _ _ t (by simpa using ht')]
 have e := eds_at ys (t / 3) hk (t % 3) hj
 rw [show t / 3 * 3 + t % 3 = t by omega] at e
 have h1 : ys.toArray[t / 3]! = ys[t / 3] := by simp [hk]
 rw [h1]
 have h2 : (ys.flatMap Edg.cells).toArray[t]! = ys[t / 3].cells[t % 3]'(by simp [Edg.cells]; omega) := by
  simp [e]
 rw [h2]
 have h3 : t % 3 < (ys[t / 3].cells).length := by simp [Edg.cells]; omega
 exact getElem!_pos ys[t / 3].cells (t % 3) h3
theorem heap_sortedE {w : World} {g n : Nat} {os : Array Obj} {cur : Array Value} {e : TypeId} {fr : Nat × Nat} (d : Array Value) (hb : w.heap[g]? = some (.cells cur e fr)) :
  (grow (putRow id (Sort.ahead w n) g 0 d) os).heap[g]? = some (.cells (putCells id 0 d cur) e fr) := by
 have hg : g < w.heap.size := (Array.getElem?_eq_some_iff.1 hb).1
 rw [heap_grow_old _ _ (by simpa using hg)]
 simp [putRow, mapBlock, Sort.ahead, Array.getElem?_modify, hb, onCells]
theorem grownBy_sortedE {w : World} {g n : Nat} {os : Array Obj} (d : Array Value) : w.grownBy (grow (putRow id (Sort.ahead w n) g 0 d) os) (some g) := by
 refine ⟨rfl, rfl, rfl, by simp, fun k hk hne => ?_⟩
 rw [heap_grow_old _ _ (by simpa using hk)]
 have : g ≠ k := fun e => hne (by rw [e])
 simp [putRow, mapBlock, Sort.ahead, Array.getElem?_modify, this]
theorem take_putCellsE (cur : Array Value) (ts : List Value) (h : ts.length ≤ cur.size) : (putCells id 0 ts.toArray cur).toList.take ts.length = ts := by
 apply List.ext_getElem?
 intro j
 by_cases hj : j < ts.length
 ·rw [List.getElem?_take_of_lt hj, Array.getElem?_toList]
  simp [putCells, hj, show j < cur.size by omega]
 ·rw [List.getElem?_take_eq_none (by omega), List.getElem?_eq_none (by omega)]
theorem holdsE {w : World} {g : Nat} {cur : Array Value} {e : TypeId} {xs : List Edg} (hb : w.heap[g]? = some (.cells cur e (0, 0))) (ht : cur.toList.take (xs.length * 3) = xs.flatMap Edg.cells) : HoldsK Edg.cells 3 w g 0 xs.toArray := by
 unfold HoldsK
 rw [flatE]
 intro j hj
 have hj' : j < xs.length * 3 := by rw [List.size_toArray, eds_len] at hj; exact hj
 refine ⟨?_, by simp [World.frozen?, hb]⟩
 have h1 : (cur.toList.take (xs.length * 3))[j]? = (xs.flatMap Edg.cells)[j]? := by rw [ht]
 rw [List.getElem?_take_of_lt hj'] at h1
 simp only [World.cell?, hb, Nat.zero_add]
 simp only [Option.isSome_none, Bool.false_eq_true, if_false]
 rw [← Array.getElem?_toList, h1]
 have hl : j < (xs.flatMap Edg.cells).length := by rw [eds_len]; exact hj'
 rw [List.getElem?_eq_getElem hl, getElem!_pos _ j hj]
 simp
theorem sortE_any (B : Nat) (v : Value) (xs : List Edg) (w : World) (h : Eds w B v xs) (hb : xs.length ≤ 4294967296) (c : Nat) (hc : w.cell? ⟨c, 0, none⟩ = some (.func (.func 80) #[] #[])) (hne : some c ≠ v.ownBlock) :
  Calls Tryz.prog 225 #[v, .func (.func 125) #[] #[.pointer (some ⟨c, 0, none⟩)]] w fun e w' => e = .returned (.tuple #[]) ∧ (∃ ys : List Edg, ys.length = xs.length ∧ Eds w' B v ys) ∧ w.grownBy w' v.ownBlock := by
 rcases h.2 with ⟨rfl, h0⟩ | ⟨g, cap, cur, rfl, hbg, hg, hn, hmx, hs, ht⟩
 ·refine (Tryz.slices_SortFunc_edges_none none 0 _ w).mono ?_
  rintro e w' ⟨rfl, rfl⟩
  exact ⟨rfl, ⟨xs, rfl, h⟩, World.grownBy.refl _ _⟩
 ·have hH := holdsE hg ht
  have hne' : c ≠ g := fun e => hne (by rw [e]; rfl)
  have hk := Tryz.slices_SortFunc_edges Edg.cells (fun _ => rfl) (fun x v hv => by simp [Edg.cells] at hv; rcases hv with rfl | rfl | rfl <;> rfl) Edg.cmp swoE 125 #[.pointer (some ⟨c, 0, none⟩)] g 0 cap xs.toArray w (enters_of Tryz.func125 (by kernel_rfl) rfl) (cmpLaysE c g 0 _ w hc hne') hH (Array.getElem?_eq_some_iff.1 hg).1 (by rw [List.size_toArray]; omega)
  rw [List.size_toArray] at hk
  refine hk.mono ?_
  rintro e w' ⟨rfl, d', n, os, hp, _, rfl⟩
  obtain ⟨ys, rfl⟩ : ∃ ys : List Edg, d' = ys.toArray := ⟨d'.toList, by simp⟩
  have hl : ys.length = xs.length := by have := hp.1; simpa using this
  unfold sortWorldK putRowK
  rw [flatE]
  have hlen := eds_len ys
  refine ⟨rfl, ⟨ys, hl, ⟨hlen, .inr ⟨g, cap, _, by rw [hl], hbg, heap_sortedE _ hg, by omega, hmx, by simp [putCells, hs], ?_⟩⟩⟩, grownBy_sortedE _⟩
  rw [← hlen]
  exact take_putCellsE cur _ (by rw [hlen, hs, hl]; omega)
end Go.Proofs.YtbnpjoiojhnimaaGreatDoor
