import Derived.Test.YtbnpjoiojhnimaaGreatDoorG38
import Derived.Test.YtbnpjoiojhnimaaGreatDoorG33
import Derived.Test.YtbnpjoiojhnimaaGreatDoorG22
set_option linter.unusedSimpArgs false
set_option linter.unusedVariables false
/- Families of own rows of ints, a block of such rows, a block of ints: what splitting.Apply works on. -/
namespace Go.Proofs.YtbnpjoiojhnimaaGreatDoor
open Go.RowKit
section
def upd {α : Type} (F : Nat → α) (i : Nat) (v : α) : Nat → α := fun k => if k = i then v else F k
theorem upd_at {α : Type} (F : Nat → α) (i : Nat) (v : α) : upd F i v i = v := by simp [upd]
theorem upd_no {α : Type} (F : Nat → α) {i k : Nat} (v : α) (h : k ≠ i) : upd F i v k = F k := by simp [upd, h]
structure Fam (W : World) (B N : Nat) (F : Nat → Value) (X : Nat → List Int) : Prop where
 row : ∀ i, i < N → Ints W B (F i) (X i)
 dist : ∀ i j, i < N → j < N → i ≠ j → (F i).ownBlock = none ∨ (F i).ownBlock ≠ (F j).ownBlock
theorem Ints.carry {w w' : World} {B : Nat} {v : Value} {zs : List Int} (h : Ints w B v zs) (hh : ∀ j, some j = v.ownBlock → w'.heap[j]? = w.heap[j]?) : Ints w' B v zs := by
 refine ⟨h.1, ?_⟩
 rcases h.2 with hn | ⟨g, cap, cur, rfl, hbg, hg, rest⟩
 ·exact .inl hn
 ·exact .inr ⟨g, cap, cur, rfl, hbg, (hh g rfl).trans hg, rest⟩
theorem Ints.own_in {w : World} {B : Nat} {v : Value} {zs : List Int} (h : Ints w B v zs) {k : Nat} (e : some k = v.ownBlock) : B ≤ k ∧ k < w.heap.size := World.ownsRow.lt h k e.symm
theorem Fam.keep {W W' : World} {B N : Nat} {F : Nat → Value} {X : Nat → List Int} (h : Fam W B N F X) (hk : ∀ k, B ≤ k → k < W.heap.size → W'.heap[k]? = W.heap[k]?) : Fam W' B N F X :=
 ⟨fun i hi => (h.row i hi).carry fun k e => hk k ((h.row i hi).own_in e).1 ((h.row i hi).own_in e).2, h.dist⟩
theorem Fam.app {W W' : World} {B N : Nat} {F : Nat → Value} {X : Nat → List Int} (h : Fam W B N F X) {i : Nat} (hi : i < N) (hg : W.grownBy W' (F i).ownBlock) {v' : Value} {ys : List Int} (hv : Ints W' B v' ys)
  (hat : v'.ownBlock = (F i).ownBlock ∨ v'.ownBlock = some W.heap.size) : Fam W' B N (upd F i v') (upd X i ys) := by
 have hne : ∀ j, j < N → j ≠ i → (F j).ownBlock = none ∨ (F j).ownBlock ≠ v'.ownBlock := fun j hj hji => by
  rcases hat with e | e
  ·rw [e]; exact h.dist j i hj hi hji
  ·refine .inr fun e2 => ?_
   have := ((h.row j hj).own_in (e.symm.trans e2.symm)).2
   omega
 refine ⟨fun j hj => ?_, fun j k hj hk hjk => ?_⟩
 ·by_cases e : j = i
  ·subst e; rw [upd_at, upd_at]; exact hv
  ·rw [upd_no _ _ e, upd_no _ _ e]
   refine (h.row j hj).carry fun k hk => hg.block k ((h.row j hj).own_in hk).2 ?_
   rcases h.dist j i hj hi e with e2 | e2
   ·rw [e2] at hk; cases hk
   ·rw [hk]; exact e2
 ·by_cases e : j = i
  ·subst e
   rw [upd_at, upd_no _ _ (Ne.symm hjk)]
   rcases hne k hk (Ne.symm hjk) with e2 | e2
   ·by_cases e3 : v'.ownBlock = none
    ·exact .inl e3
    ·exact .inr (by rw [e2]; exact e3)
   ·exact .inr fun e3 => e2 e3.symm
  ·rw [upd_no _ _ e]
   by_cases e4 : k = i
   ·subst e4; rw [upd_at]; exact hne j hj e
   ·rw [upd_no _ _ e4]; exact h.dist j k hj hk hjk
theorem Fam.put {W W' : World} {B N : Nat} {F : Nat → Value} {X : Nat → List Int} (h : Fam W B N F X) {i : Nat} (hi : i < N) (hB : Below W.heap.size W W') {v : Value} {ys : List Int} (hv : Ints W' W.heap.size v ys) (hz : B ≤ W.heap.size) : Fam W' B N (upd F i v) (upd X i ys) := by
 have hne : ∀ j, j < N → (F j).ownBlock = none ∨ (F j).ownBlock ≠ v.ownBlock := fun j hj => by
  by_cases e : (F j).ownBlock = none
  ·exact .inl e
  ·obtain ⟨k, hk⟩ := Option.ne_none_iff_exists'.1 e
   refine .inr fun e2 => ?_
   have h1 := ((h.row j hj).own_in hk.symm).2
   have h2 := (hv.own_in (hk.symm.trans e2)).1
   omega
 refine ⟨fun j hj => ?_, fun j k hj hk hjk => ?_⟩
 ·by_cases e : j = i
  ·subst e; rw [upd_at, upd_at]; exact hv.lower hz
  ·rw [upd_no _ _ e, upd_no _ _ e]
   exact (h.row j hj).carry fun k hk => hB.block k ((h.row j hj).own_in hk).2
 ·by_cases e : j = i
  ·subst e
   rw [upd_at, upd_no _ _ (Ne.symm hjk)]
   rcases hne k hk with e2 | e2
   ·by_cases e3 : v.ownBlock = none
    ·exact .inl e3
    ·exact .inr (by rw [e2]; exact e3)
   ·exact .inr fun e3 => e2 e3.symm
  ·rw [upd_no _ _ e]
   by_cases e4 : k = i
   ·subst e4; rw [upd_at]; exact hne j hj
   ·rw [upd_no _ _ e4]; exact h.dist j k hj hk hjk
structure ApS (W : World) (Z S E : Nat) (F : Nat → Value) (X : Nat → List Int) : Prop where
 fam : Fam W (Z + 2) (S + 4) F X
 cblk : W.heap[Z]? = some (.cells ((List.range S).map fun j => F (j + 4)).toArray 31 (0, 0))
 oblk : ∃ zs : List Int, zs.length = E ∧ IB W (Z + 1) zs
section
variable {W W' : World} {Z S E : Nat} {F : Nat → Value} {X : Nat → List Int}
theorem ApS.lt (h : ApS W Z S E F X) : Z + 2 ≤ W.heap.size := by
 obtain ⟨zs, _, hz⟩ := h.oblk
 have := hz.lt
 omega
theorem ApS.below (h : ApS W Z S E F X) (hB : Below W.heap.size W W') : ApS W' Z S E F X := by
 have hl := h.lt
 obtain ⟨zs, hzl, hz⟩ := h.oblk
 exact ⟨h.fam.keep fun k _ hk => hB.block k hk, (hB.block Z (by omega)).trans h.cblk, zs, hzl, hz.below hB⟩
theorem ApS.alloc (h : ApS W Z S E F X) (o : Obj) : ApS (W.alloc o) Z S E F X := h.below ((Below.refl _ _).alloc (Nat.le_refl _) _)
theorem ApS.own (h : ApS W Z S E F X) (j : Nat) (x : Int) : ApS (W.setCell ⟨Z + 1, j, none⟩ (.int .i64 x)) Z S E F X := by
 obtain ⟨zs, hzl, hz⟩ := h.oblk
 refine ⟨h.fam.keep fun k hk _ => Below.heap_setCell _ ⟨Z + 1, j, none⟩ _ k (by show k ≠ Z + 1; omega), (Below.heap_setCell _ ⟨Z + 1, j, none⟩ _ Z (by show Z ≠ Z + 1; omega)).trans h.cblk, zs.set j x, by simpa using hzl, hz.set j x⟩
theorem ApS.app (h : ApS W Z S E F X) {i : Nat} (hi : i < 4) (hg : W.grownBy W' (F i).ownBlock) {v' : Value} {ys : List Int} (hv : Ints W' (Z + 2) v' ys) (hat : v'.ownBlock = (F i).ownBlock ∨ v'.ownBlock = some W.heap.size) : ApS W' Z S E (upd F i v') (upd X i ys) := by
 have hl := h.lt
 obtain ⟨zs, hzl, hz⟩ := h.oblk
 have hge : ∀ k, some k = (F i).ownBlock → Z + 2 ≤ k := fun k e => ((h.fam.row i (by omega)).own_in e).1
 refine ⟨h.fam.app (by omega) hg hv hat, ?_, zs, hzl, (hg.block (Z + 1) (by omega) fun e => by have := hge _ e; omega).trans hz⟩
 have e : ((List.range S).map fun j => upd F i v' (j + 4)) = (List.range S).map fun j => F (j + 4) := List.map_congr_left fun j _ => upd_no _ _ (by omega)
 rw [e]
 exact (hg.block Z (by omega) fun e => by have := hge _ e; omega).trans h.cblk
theorem ApS.put (h : ApS W Z S E F X) {i : Nat} (hi : i < 4) (hB : Below W.heap.size W W') {v : Value} {ys : List Int} (hv : Ints W' W.heap.size v ys) : ApS W' Z S E (upd F i v) (upd X i ys) := by
 have hl := h.lt
 obtain ⟨zs, hzl, hz⟩ := h.oblk
 refine ⟨h.fam.put (by omega) hB hv hl, ?_, zs, hzl, hz.below hB⟩
 have e : ((List.range S).map fun j => upd F i v (j + 4)) = (List.range S).map fun j => F (j + 4) := List.map_congr_left fun j _ => upd_no _ _ (by omega)
 rw [e]
 exact (hB.block Z (by omega)).trans h.cblk
theorem ApS.child (h : ApS W Z S E F X) {s : Nat} (hs : s < S) (hg : W.grownBy W' (F (s + 4)).ownBlock) {v' : Value} {ys : List Int} (hv : Ints W' (Z + 2) v' ys) (hat : v'.ownBlock = (F (s + 4)).ownBlock ∨ v'.ownBlock = some W.heap.size) : ApS (W'.setCell ⟨Z, s, none⟩ v') Z S E (upd F (s + 4) v') (upd X (s + 4) ys) := by
 have hl := h.lt
 obtain ⟨zs, hzl, hz⟩ := h.oblk
 have hge : ∀ k, some k = (F (s + 4)).ownBlock → Z + 2 ≤ k := fun k e => ((h.fam.row (s + 4) (by omega)).own_in e).1
 have hf := h.fam.app (i := s + 4) (by omega) hg hv hat
 refine ⟨hf.keep fun k hk _ => Below.heap_setCell _ ⟨Z, s, none⟩ _ k (by show k ≠ Z; omega), ?_, zs, hzl, (Below.heap_setCell _ ⟨Z, s, none⟩ _ (Z + 1) (by show Z + 1 ≠ Z; omega)).trans ((hg.block (Z + 1) (by omega) fun e => by have := hge _ e; omega).trans hz)⟩
 have hb := (hg.block Z (by omega) fun e => by have := hge _ e; omega).trans h.cblk
 simp only [World.setCell, Array.getElem?_modify, hb, if_true]
 simp only [Option.map_some, Obj.cells.injEq, Option.some.injEq, and_true, true_and]
 apply Array.ext
 ·simp
 ·intro i h1 h2
  simp at h2
  by_cases e : i = s
  ·subst e; simp [upd]
  ·simp [upd, e, Array.getElem_setIfInBounds, Ne.symm e]
end
structure ApB (w1 W : World) (Z S E N PB : Nat) (s : Int) (vo : Value) (F : Nat → Value) (X : Nat → List Int) : Prop where
 st : ApS W Z S E F X
 fx : ∀ i, i < S + 4 → (F i).ownBlock ≠ some N ∧ (F i).ownBlock ≠ some PB
 hn : W.heap[N]? = some (.cells #[.int .i64 s] 3 (0, 0))
 hp : W.heap[PB]? = some (.cells #[vo] 31 (0, 0))
 zn : Z + 2 ≤ N
 zp : Z + 2 ≤ PB
 bel : Below Z w1 W
section
variable {w1 W W' : World} {Z S E N PB : Nat} {s : Int} {vo : Value} {F : Nat → Value} {X : Nat → List Int}
theorem ApB.nlt (h : ApB w1 W Z S E N PB s vo F X) : N < W.heap.size := (Array.getElem?_eq_some_iff.1 h.hn).1
theorem ApB.plt (h : ApB w1 W Z S E N PB s vo F X) : PB < W.heap.size := (Array.getElem?_eq_some_iff.1 h.hp).1
theorem ApB.below (h : ApB w1 W Z S E N PB s vo F X) (hB : Below W.heap.size W W') : ApB w1 W' Z S E N PB s vo F X :=
 ⟨h.st.below hB, h.fx, (hB.block N h.nlt).trans h.hn, (hB.block PB h.plt).trans h.hp, h.zn, h.zp, h.bel.trans (hB.mono (by have := h.st.lt; omega))⟩
theorem ApB.alloc (h : ApB w1 W Z S E N PB s vo F X) (o : Obj) : ApB w1 (W.alloc o) Z S E N PB s vo F X := h.below ((Below.refl _ _).alloc (Nat.le_refl _) _)
theorem ApB.drewN (h : ApB w1 W Z S E N PB s vo F X) (q : Nat) : ApB w1 (W.drewN q) Z S E N PB s vo F X := h.below (belowN (Below.refl _ _) _)
theorem ApB.own (h : ApB w1 W Z S E N PB s vo F X) (j : Nat) (x : Int) : ApB w1 (W.setCell ⟨Z + 1, j, none⟩ (.int .i64 x)) Z S E N PB s vo F X :=
 ⟨h.st.own j x, h.fx, (Below.heap_setCell _ ⟨Z + 1, j, none⟩ _ N (by show N ≠ Z + 1; have := h.zn; omega)).trans h.hn, (Below.heap_setCell _ ⟨Z + 1, j, none⟩ _ PB (by show PB ≠ Z + 1; have := h.zp; omega)).trans h.hp, h.zn, h.zp, h.bel.setCell (p := ⟨Z + 1, j, none⟩) (by show Z ≤ Z + 1; omega) _⟩
theorem fx_upd {v' : Value} {i : Nat} (hi : i < S + 4) (hf : ∀ i, i < S + 4 → (F i).ownBlock ≠ some N ∧ (F i).ownBlock ≠ some PB) (hat : v'.ownBlock = (F i).ownBlock ∨ v'.ownBlock = some W.heap.size) (hn : N < W.heap.size) (hp : PB < W.heap.size) : ∀ j, j < S + 4 → (upd F i v' j).ownBlock ≠ some N ∧ (upd F i v' j).ownBlock ≠ some PB := by
 intro j hj
 by_cases e : j = i
 ·subst e
  rw [upd_at]
  rcases hat with e | e
  ·rw [e]; exact hf j hj
  ·rw [e]; simp; omega
 ·rw [upd_no _ _ e]; exact hf j hj
theorem ApB.app (h : ApB w1 W Z S E N PB s vo F X) {i : Nat} (hi : i < 4) (hg : W.grownBy W' (F i).ownBlock) {v' : Value} {ys : List Int} (hv : Ints W' (Z + 2) v' ys) (hat : v'.ownBlock = (F i).ownBlock ∨ v'.ownBlock = some W.heap.size) : ApB w1 W' Z S E N PB s vo (upd F i v') (upd X i ys) :=
 ⟨h.st.app hi hg hv hat, fx_upd (by omega) h.fx hat h.nlt h.plt, (hg.block N h.nlt fun e => (h.fx i (by omega)).1 e.symm).trans h.hn, (hg.block PB h.plt fun e => (h.fx i (by omega)).2 e.symm).trans h.hp, h.zn, h.zp,
  h.bel.grown hg (by have := h.st.lt; omega) fun k e => by have := ((h.st.fam.row i (by omega)).own_in e.symm).1; omega⟩
theorem ApB.child (h : ApB w1 W Z S E N PB s vo F X) {t : Nat} (ht : t < S) (hg : W.grownBy W' (F (t + 4)).ownBlock) {v' : Value} {ys : List Int} (hv : Ints W' (Z + 2) v' ys) (hat : v'.ownBlock = (F (t + 4)).ownBlock ∨ v'.ownBlock = some W.heap.size) : ApB w1 (W'.setCell ⟨Z, t, none⟩ v') Z S E N PB s vo (upd F (t + 4) v') (upd X (t + 4) ys) :=
 ⟨h.st.child ht hg hv hat, fx_upd (by omega) h.fx hat h.nlt h.plt, (Below.heap_setCell _ ⟨Z, t, none⟩ _ N (by show N ≠ Z; have := h.zn; omega)).trans ((hg.block N h.nlt fun e => (h.fx (t + 4) (by omega)).1 e.symm).trans h.hn), (Below.heap_setCell _ ⟨Z, t, none⟩ _ PB (by show PB ≠ Z; have := h.zp; omega)).trans ((hg.block PB h.plt fun e => (h.fx (t + 4) (by omega)).2 e.symm).trans h.hp), h.zn, h.zp,
  (h.bel.grown hg (by have := h.st.lt; omega) fun k e => by have := ((h.st.fam.row (t + 4) (by omega)).own_in e.symm).1; omega).setCell (p := ⟨Z, t, none⟩) (Nat.le_refl _) _⟩
theorem ApB.put (h : ApB w1 W Z S E N PB s vo F X) {i : Nat} (hi : i < 4) (hB : Below W.heap.size W W') {v : Value} {ys : List Int} (hv : Ints W' W.heap.size v ys) : ApB w1 W' Z S E N PB s vo (upd F i v) (upd X i ys) := by
 have hb := h.below hB
 refine ⟨h.st.put hi hB hv, fun j hj => ?_, hb.hn, hb.hp, h.zn, h.zp, hb.bel⟩
 by_cases e : j = i
 ·subst e
  rw [upd_at]
  have h1 := h.nlt
  have h2 := h.plt
  exact ⟨fun e => by have := (hv.own_in e.symm).1; omega, fun e => by have := (hv.own_in e.symm).1; omega⟩
 ·rw [upd_no _ _ e]; exact h.fx j hj
end
end
end Go.Proofs.YtbnpjoiojhnimaaGreatDoor
