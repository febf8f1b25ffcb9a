import Derived.Test.YtbnpjoiojhnimaaGreatDoorG22
import Derived.Test.YtbnpjoiojhnimaaGreatDoorG29
import Derived.OwnWalkIn
set_option linter.unusedSimpArgs false
set_option linter.unusedVariables false
/- graph.Out: its contract. -/
namespace Go.Proofs.YtbnpjoiojhnimaaGreatDoor
open Go.RowKit Go.Shelf
section
attribute [local go_sem] Oper.semAt_some
theorem Ints.lower {w : World} {B B' : Nat} {v : Value} {zs : List Int} (h : Ints w B v zs) (hb : B' ≤ B) : Ints w B' v zs := by
 refine ⟨h.1, ?_⟩
 rcases h.2 with hn | ⟨g, cap, cur, rfl, hbg, hg, rest⟩
 ·exact .inl hn
 ·exact .inr ⟨g, cap, cur, rfl, by omega, hg, rest⟩
theorem lvs_len (es : List Edg) (s : Int) : (lvs es s).length ≤ es.length := by
 have : ∀ k, (lvP es s k).length ≤ k := by
  intro k
  induction k with
  | zero => simp [lvP]
  | succ k ih =>
   rw [lvP_succ, List.length_append]
   have : (lvAt es s k).length ≤ 1 := by unfold lvAt; split <;> (try split) <;> simp
   omega
 exact this _
def lvI (es : List Edg) (s : Int) : List Int := (lvs es s).map fun x => (x.1 : Int)
theorem mem_lvI {es : List Edg} {s x : Int} (h : x ∈ lvI es s) : ∃ k : Nat, x = k ∧ ∃ hk : k < es.length, es[k].f = s := by
 obtain ⟨y, hy, rfl⟩ := List.mem_map.1 h
 obtain ⟨h1, h2, h3⟩ := mem_lvP hy
 exact ⟨y.1, rfl, h1, by rw [List.getElem?_eq_getElem h1, Option.some.injEq] at h2; rw [h2]; exact h3⟩
theorem wpListIn_app_int {F : Fence} {n : Nat} {w : World} {ops : Array Oper} {rest : List Oper} {o : Oper} {a : Act} {Q : Exit → Act → World → Prop} (hgd : o.guard = none) (s x : Operand)
  (ho : o.op = .call { callee := .builtin .append, args := #[s, x], argTypes := #[31, 31] })
  (B : Nat) (v : Value) (xs : List Int) (hs : a.eval s = v) (hown : Ints w B v xs) (g : Nat) (z : Int) (hx : a.eval x = .slice (some ⟨g, 0, none⟩) 1 1) (hblk : w.heap[g]? = some (.cells #[.int .i64 z] 3 (0, 0)))
  (hb : xs.length + 1 ≤ 4294967296) (hbase : B ≤ w.heap.size)
  (h : ∀ v' w', Ints w' B v' (xs ++ [z]) → w.grownBy w' v.ownBlock → wpListIn F n Tryz.prog ops Q rest (a.put o.dst v') w') : wpListIn F n Tryz.prog ops Q (o :: rest) a w := by
 obtain ⟨i0, hi, hz0, hz1, hz2⟩ := info_parts infoIntA
 refine wpListIn_append_own w hgd s x 31 ho B 3 i0 _ 1 8 Tryz.underlying31 hi hz0 hz1 hz2 rfl (by decide) v xs.length (xs.map (Value.int .i64)) hs hown ⟨g, 0, none⟩ 1 1 [.int .i64 z] hx (by simp) ?_ ?_ (by unfold maxLen; omega) (by omega) hbase ?_
 ·intro j u hj
  have : (⟨g, 0, none⟩ : Addr).add j = ⟨g, j, none⟩ := by unfold Addr.add; split <;> simp_all
  rw [this, cell_of_row w g j _ 3 (0, 0) hblk]
  simpa using hj
 ·intro u hu
  obtain rfl := List.mem_singleton.1 hu
  rfl
 ·intro v' w' h1 h2 _
  refine h v' w' ?_ h2
  unfold Ints
  rw [List.length_append, List.map_append]
  exact h1
theorem LSt.app {W W' : World} {bl B : Nat} {v v' : Value} {p p' : List Int} {o : Obj} (h : LSt W bl B v p) (hg : (W.alloc o).grownBy W' v.ownBlock) (hi : Ints W' B v' p') :
  W'.cell? ⟨bl, 0, none⟩ = some v ∧ W'.frozen? ⟨bl, 0, none⟩ = false ∧ LSt (W'.setCell ⟨bl, 0, none⟩ v') bl B v' p' := by
 have hbl : bl < W.heap.size := World.block_lt_of_cell? _ _ h.c
 have hne : some bl ≠ v.ownBlock := fun e => by have := (h.i.own_ge e.symm).1; have := h.b; omega
 have hb : W'.heap[bl]? = W.heap[bl]? := (hg.block bl (by simp; omega) hne).trans (heap_alloc_old W o hbl)
 have hc : W'.cell? ⟨bl, 0, none⟩ = some v := (World.cell?_of_block hb).trans h.c
 have hf : W'.frozen? ⟨bl, 0, none⟩ = false := (World.frozen?_of_block hb).trans h.f
 refine ⟨hc, hf, World.cell?_setCell_same' W' ⟨bl, 0, none⟩ v' (by rw [hc]; rfl), ?_, ?_, h.b, ?_⟩
 ·rw [World.frozen?_setCell]; exact hf
 ·refine ⟨hi.1, ?_⟩
  rcases hi.2 with hn | ⟨g, cap, cur, rfl, hbg, hgg, rest⟩
  ·exact .inl hn
  ·exact .inr ⟨g, cap, cur, rfl, hbg, (Below.heap_setCell _ ⟨bl, 0, none⟩ _ g (by show g ≠ bl; have := h.b; omega)).trans hgg, rest⟩
 ·have h1 := h.z
  have h2 := hg.size
  have h3 : (W'.setCell ⟨bl, 0, none⟩ v').heap.size = W'.heap.size := by simp [World.setCell]
  simp at h2
  omega
theorem ks_set {S : Nat → Prop} {a w : World} (h : KS S a w) {p : Addr} (hp : ¬ S p.block) (u : Value) : KS S a (w.setCell p u) :=
 ⟨h.os, h.tape, h.output, by simpa [World.setCell] using h.size, fun k hk hs => (Below.heap_setCell w p u k (fun e => hp (e ▸ hs))).trans (h.block k hk hs)⟩
theorem LSt.app_ks {S : Nat → Prop} {W W' : World} {bl B : Nat} {v v' : Value} {p : List Int} {o : Obj} (h : LSt W bl B v p) (hg : (W.alloc o).grownBy W' v.ownBlock) (hS : ∀ k, S k → k < B ∧ k ≠ bl) : KS S W (W'.setCell ⟨bl, 0, none⟩ v') :=
 ks_set (((KS.refl S W).alloc o).grown hg (fun k e hk => by have := (h.i.own_ge e).1; have := (hS k hk).1; omega)) (fun hk => (hS bl hk).2 rfl) v'
theorem LSt.app_keeps {W W' : World} {bl B N : Nat} {v v' : Value} {p : List Int} {o : Obj} (h : LSt W bl B v p) (hg : (W.alloc o).grownBy W' v.ownBlock) (hN : bl < N) : KeepsFrom N W (W'.setCell ⟨bl, 0, none⟩ v') := by
 refine ⟨?_, fun k ob hk ho hc => ?_⟩
 ·have h2 := hg.size
  have h3 : (W'.setCell ⟨bl, 0, none⟩ v').heap.size = W'.heap.size := by simp [World.setCell]
  simp at h2
  omega
 ·have hkl := (Array.getElem?_eq_some_iff.1 ho).1
  rw [Below.heap_setCell _ _ _ _ (by show k ≠ bl; omega), hg.block k (by simp; omega) (fun e => by
   obtain ⟨_, cs, hcs⟩ := h.i.own_ge e.symm
   rw [hcs] at ho; cases ho; cases hc), heap_alloc_old W o hkl]
  exact ho
def So (V k : Nat) : Prop := k < V + 3 ∧ k ≠ V
def InvO (V : Nat) (W0 : World) (pre : List (Nat × Edg)) (W : World) : Prop := (∃ v, LSt W V (V + 3) v (pre.map fun x => (x.1 : Int))) ∧ KS (So V) W0 W
set_option maxRecDepth 100000 in
set_option maxHeartbeats 4000000 in
theorem grOut_any (L S s : Int) (es : List Edg) (A : Option Addr) (c : Nat) (w : World) (hG : okG L S es = true) (hs : 0 ≤ s ∧ s < S) (hr : RowE w A es) :
  Calls Tryz.prog 166 #[.agg #[.int .i64 L, .int .i64 S, .slice A es.length c], .int .i64 s] w fun e w' => ∃ v, e = .returned (.tuple #[v, .int .i64 0]) ∧ Ints w' w.heap.size v (lvI es s) ∧ Below w.heap.size w w' := by
 refine (callsIn_wide (n := 3)).1 ?_
 obtain ⟨Z, hZ⟩ : ∃ Z, w.heap.size = Z := ⟨_, rfl⟩
 have HZ := hide hZ
 obtain ⟨_, _, hl⟩ := okG_size hG
 have hB0 : Below Z w (w.alloc (.cells #[.int .i64 L, .int .i64 S, .slice A es.length c] 24)) := by rw [← hZ]; exact (Below.refl _ w).alloc (Nat.le_refl _) _
 have hb0 : (w.alloc (.cells #[.int .i64 L, .int .i64 S, .slice A es.length c] 24)).heap[Z]? = some (.cells #[.int .i64 L, .int .i64 S, .slice A es.length c] 24 (0, 0)) := hZ ▸ heap_alloc_new w _
 have HC := hide (fun W (h : Below Z w W) => callsIn_wide (n := 2).2 (grCheck_any L S es A c W (hr.below (h.mono (Nat.le_of_eq hZ)))))
 have HLv := hide (fun W => callsIn_wide (n := 2).2 (leaving_in L S s A es.length c W))
 have HR := hide (fun W (h : Below Z w W) => hr.below (h.mono (Nat.le_of_eq hZ)))
 rw [hG] at HC
 have d1 : decide (s < 0) = false := decide_eq_false (by omega)
 have d2 : decide (S ≤ s) = false := decide_eq_false (by omega)
 have hzl : Z < (w.alloc (.cells #[.int .i64 L, .int .i64 S, .slice A es.length c] 24)).heap.size := by rw [← hZ]; simp
 clear hr hZ
 refine callsIn_of_wp_marks Tryz.func166 rfl trivial ?_ rfl
 simp only [Tryz.ntmps166, List.size_toArray, List.length_cons, List.length_nil, Nat.reduceAdd, Nat.reduceSub, Array.replicate_succ, Array.replicate_zero, List.push_toArray, List.append_toArray, List.nil_append, List.cons_append]
 gi_wp2_with fail
 try rw [HZ.out]
 generalize w.alloc (.cells #[.int .i64 L, .int .i64 S, .slice A es.length c] 24) = W0 at hB0 hb0 hzl ⊢
 refine ⟨trivial, ?_⟩
 (with_reducible refine (HC.out W0 hB0).mono ?_)
 rintro e W1 ⟨r, rfl, hr0, hB1⟩
 obtain rfl : r = 0 := by simpa using hr0
 have hB2 : Below Z w W1 := hB0.trans (hB1.mono (Nat.le_of_lt hzl))
 have hb1 := (hB1.block Z hzl).trans hb0
 obtain ⟨a0, a1, a2, _⟩ := at3 hb1
 obtain ⟨V, hV⟩ : ∃ V, W1.heap.size = V := ⟨_, rfl⟩
 have hZV : Z < V := by rw [← hV]; exact Nat.lt_of_lt_of_le hzl hB1.size
 have hB3 : Below Z w (W1.alloc (.cells #[.slice none 0 0] 31)) := hB2.alloc (by omega) _
 have hb3 : (W1.alloc (.cells #[.slice none 0 0] 31)).heap[V]? = some (.cells #[.slice none 0 0] 31 (0, 0)) := hV ▸ heap_alloc_new W1 _
 have hz3 : (W1.alloc (.cells #[.slice none 0 0] 31)).heap.size = V + 1 := by rw [← hV]; simp
 have hbz := (heap_alloc_old W1 (.cells #[.slice none 0 0] 31) (show Z < W1.heap.size by omega)).trans hb1
 obtain ⟨c0, c1, c2, _⟩ := at3 hbz
 clear hB0 hb0 hzl hB1 hb1 hr0 HC hB2 hbz
 gi_wp2_with fail
 try rw [hV]
 generalize W1.alloc (.cells #[.slice none 0 0] 31) = W3 at hB3 hb3 hz3 c0 c1 c2 ⊢
 clear a0 a1 a2 hV
 refine ⟨trivial, ?_⟩
 (with_reducible refine (HLv.out W3).mono ?_)
 rintro e W4 ⟨rfl, hW4⟩
 have hB5 : Below Z w W4 := by rw [hW4]; exact (hB3.alloc (by omega) _).alloc (by simp; omega) _
 have hz5 : W4.heap.size = V + 3 := by rw [hW4]; simp; omega
 have hb5 : W4.heap[V]? = some (.cells #[.slice none 0 0] 31 (0, 0)) := by rw [hW4, heap_alloc_old _ _ (by simp; omega), heap_alloc_old _ _ (by omega)]; exact hb3
 have hg5 : W4.heap[V + 1]? = some (.cells #[.int .i64 L, .int .i64 S, .slice A es.length c] 24 (0, 0)) := by
  rw [hW4, heap_alloc_old _ _ (by simp; omega)]
  have := heap_alloc_new W3 (.cells #[.int .i64 L, .int .i64 S, .slice A es.length c] 24)
  rwa [hz3] at this
 have hs5 : W4.heap[V + 2]? = some (.cells #[.int .i64 s] 3 (0, 0)) := by
  rw [hW4]
  have := heap_alloc_new (W3.alloc (.cells #[.int .i64 L, .int .i64 S, .slice A es.length c] 24)) (.cells #[.int .i64 s] 3)
  rwa [World.size_alloc, hz3] at this
 rw [hz3]
 clear hW4 hB3 hb3 hz3 c0 c1 c2 HLv
 have hst5 : LSt W4 V (V + 3) (.slice none 0 0) [] := ⟨cell_of_one hb5, by simp [World.frozen?, hb5], Ints.nil_ _ _, by omega, by omega⟩
 have hS : ∀ k, W4.heap.size ≤ k → ¬ So V k := fun k hk h => by have := h.1; omega
 have HB5 := hide hB5
 have HG5 := hide hg5
 have HS5 := hide hs5
 clear hB5 hg5 hs5 hb5
 gi_wp2_with fail
 refine wpIn_rangeFunc_ownH rfl (by omega) (gf := 264) (lb := #[.pointer (some ⟨V + 1, 0, none⟩), .pointer (some ⟨V + 1 + 1, 0, none⟩)]) rfl trivial (enters_of Tryz.func264 (by kernel_rfl) rfl)
  (leavingf_stops 2 (by omega) (V + 1) (V + 1 + 1) c s es A (by omega) (KS (So V)) (KS.refl _) (fun W cs => (KS.refl _ W).alloc _) (fun h k => h.trans k) W4
   (fun W W' hW hK => ?k1))
  (fun h k => h.trans k) (ks_b hS) (Below.refl _ _) (fun _ => rfl)
  (InvO V W4)
  (fun _ _ _ => False)
  (OwnFrom.and (fun p X Y row hs hg hr => ?own1) (ownFrom_ks (fun k h1 _ => hS k h1) (Nat.le_refl _)))
  (fun _ _ _ _ _ hs _ _ => hs)
  ⟨⟨_, hst5⟩, KS.refl _ _⟩
  (fun x a' W => a' = { tmps := #[.agg #[.int .i64 L, .int .i64 S, .slice A es.length c], .int .i64 s, .pointer (some ⟨Z, 0, none⟩), undef, .slice none 0 0, .int .i64 0, .pointer (some ⟨V, 0, none⟩), .int .i64 (x.1 : Nat), .agg #[.int .i64 L, .int .i64 S, .slice A es.length c], .int .i64 0, .bool false, .int .i64 s, .bool false, .bool false, .int .i64 s, .pointer (some ⟨Z, 1, none⟩), .int .i64 S, .bool false, .bool false, .agg #[.int .i64 L, .int .i64 S, .slice A es.length c], .int .i64 s, .func (.func 264) #[] #[.pointer (some ⟨V + 1, 0, none⟩), .pointer (some ⟨V + 1 + 1, 0, none⟩)], .int .i64 (x.1 : Nat), .agg #[.int .i64 x.2.f, .int .i64 x.2.l, .int .i64 x.2.t], undef, undef, undef, undef, undef], defers := [] })
  ?hax ?assign ?body ?done ?stop
 case k1 =>
  have h1 : KS (So V) W4 W' := (KS.of_below hW (fun k hk => by have := hk.1; omega)).trans hK
  refine ⟨HR.out W' (HB5.out.trans (h1.below (B := V) (fun k hk => ⟨by omega, by omega⟩) (by omega) |>.mono (by omega))), ?_, ?_⟩
  ·exact h1.cell (p := ⟨V + 1, 2, none⟩) (by rw [cell_of_row W4 _ _ _ _ _ HG5.out]; rfl) ⟨by show V + 1 < _; omega, by show V + 1 ≠ _; omega⟩
  ·exact h1.cell (p := ⟨V + 1 + 1, 0, none⟩) (cell_of_one HS5.out) ⟨by show V + 1 + 1 < _; omega, by show V + 1 + 1 ≠ _; omega⟩
 case own1 =>
  obtain ⟨v, h⟩ := hs
  refine ⟨v, h.grown hg (fun e => ?_) (fun g hv e => ?_)⟩
  ·have := (hr _ e.symm).1
   omega
  ·obtain ⟨_, cs, hcs⟩ := h.i.own_ge hv
   obtain ⟨o, ho, hw⟩ := (hr _ e.symm).2
   rw [hcs] at ho
   cases ho
   cases hw
 case hax =>
  intro x a' p X Y row hs hg hrow
  exact hs
 case assign =>
  rintro l pre x W K hI hK
  simp only [encL] at hK ⊢
  gi_wp2
  exact hK _ _ (KeepsFrom.refl _ _) (KS.refl _ _) hI rfl
 case body =>
  rintro l pre x a' W _ _ ⟨⟨v, hst⟩, hks⟩ rfl hlen
  have hc := hst.c
  have hlp : (pre.map fun x => (x.1 : Int)).length + 1 ≤ 4294967296 := by
   have h1 : (lvs es s).length ≤ es.length := lvs_len es s
   rw [List.length_map]
   omega
  have HST := hide hst
  have HKS := hide hks
  clear hst hks hlen
  gi_wp2_with (gi_at_builtin; refine wpListIn_app_int rfl (.tmp 24) (.tmp 26) rfl (V + 3) v _ rfl (HST.out.i.alloc _) W.heap.size (x.1 : Int) rfl (heap_alloc_new W _) hlp (by have := HST.out.z; simp; omega) ?_; intro v' wd hown2 hg1; obtain ⟨hc3, hf3, hk3⟩ := HST.out.app hg1 hown2; have hks3 := HST.out.app_ks (S := So V) (v' := v') hg1 (fun k hk => ⟨hk.1, hk.2⟩); have hkp3 := HST.out.app_keeps (N := W4.heap.size) (v' := v') hg1 (by omega); obtain ⟨ad1, cp1, e1⟩ := hown2.shape; subst e1)
  have e2 : ((pre.map fun x => (x.1 : Int)) ++ [(x.1 : Int)]).length = pre.length + 1 := by simp
  rw [e2] at hk3 hks3 hkp3
  refine ⟨hkp3, hks3, ⟨.slice ad1 (pre.length + 1) cp1, ?_⟩, HKS.out.trans hks3⟩
  rw [List.map_append]
  exact hk3
 case done =>
  rintro D ys W hD rfl ⟨⟨v, hst⟩, hks⟩ hK
  have hM : Marks (V + 3) [mark D] W := Marks.one (by omega) hK
  have hc := hst.c
  have HST := hide hst
  have HM := hide hM
  have HBl := hide (show Below Z w W from HB5.out.trans ((hks.below (B := V) (fun k hk => ⟨by omega, by omega⟩) (by omega)).mono (by omega)))
  clear hst hks hK hM
  gi_wp2
  refine leaves_marks (base := V + 3) HM.out fun w9 hSh => ⟨_, results_tmp2 rfl _ _ _, v, rfl, ?_, ?_⟩
  ·have h1 := hSh.ownsRow HST.out.i
   rw [HZ.out]
   exact Ints.lower h1 (by omega)
  ·rw [HZ.out]
   exact hSh.below HBl.out (by omega)
 case stop =>
  rintro D c pre W _ _ hF
  exact hF.elim
end
end Go.Proofs.YtbnpjoiojhnimaaGreatDoor
