import Derived.Test.YtbnpjoiojhnimaaGreatDoorG22
import Derived.Test.YtbnpjoiojhnimaaGreatDoorG24
import Derived.Test.YtbnpjoiojhnimaaGreatDoorG30
import Derived.Test.YtbnpjoiojhnimaaGreatDoorG21
import Derived.Test.YtbnpjoiojhnimaaGreatDoorG17
import Derived.Deep.RegionHeld3
set_option linter.unusedSimpArgs false
set_option linter.unusedVariables false
/- splitting.divides: what it says where it answers true. -/
namespace Go.Proofs.YtbnpjoiojhnimaaGreatDoor
open Go.RowKit
def IfB (P : Prop) (e : Ending) : Prop := ∃ b : Bool, e = .returned (.bool b) ∧ (b = true → P)
theorem wpList_app_row {w : World} {ops : Array Oper} {rest : List Oper} {o : Oper} {a : Act} {Q : Exit → Act → World → Prop} (hgd : o.guard = none) (s x : Operand)
  (ho : o.op = .call { callee := .builtin .append, args := #[s, x], argTypes := #[31, 31] })
  (B : Nat) (v : Value) (xs : List Int) (hs : a.eval s = v) (hown : Ints w B v xs)
  (g off m cap : Nat) (news : List Int) (hx : a.eval x = .slice (some ⟨g, off, none⟩) m cap) (hl : news.length = m) (hblk : ∀ k (hk : k < news.length), w.cell? ⟨g, off + k, none⟩ = some (.int .i64 news[k]))
  (hb : xs.length + m ≤ 4294967296) (hbase : B ≤ w.heap.size)
  (h : ∀ v' w', Ints w' B v' (xs ++ news) → w.grownBy w' v.ownBlock → wpList Tryz.prog ops Q rest (a.put o.dst v') w') : wpList Tryz.prog ops Q (o :: rest) a w := by
 obtain ⟨i0, hi, hz0, hz1, hz2⟩ := info_parts infoIntA
 refine wpList_append_own_at w hgd s x 31 ho B 3 i0 _ 1 8 Tryz.underlying31 hi hz0 hz1 hz2 rfl (by decide) v xs.length (xs.map (Value.int .i64)) hs hown ⟨g, off, none⟩ m cap (news.map (Value.int .i64)) hx (by simp [hl]) ?_ ?_ (by unfold maxLen; omega) (by omega) hbase ?_
 ·intro j u hj
  have : (⟨g, off, none⟩ : Addr).add j = ⟨g, off + j, none⟩ := by unfold Addr.add; split <;> simp_all
  rw [this]
  obtain ⟨hj1, hj2⟩ := List.getElem?_eq_some_iff.1 hj
  rw [List.length_map] at hj1
  rw [hblk j hj1, ← hj2, List.getElem_map]
 ·intro u hu
  obtain ⟨b, _, rfl⟩ := List.mem_map.1 hu
  rfl
 ·intro v' w' h1 h2 _ _
  refine h v' w' ?_ h2
  unfold Ints
  rw [List.length_append, hl, List.map_append]
  exact h1
def DivOk (ps : List (List Int)) (zs : List Int) : Prop := 1 < ps.length ∧ (∀ p ∈ ps, 0 < p.length ∧ ∀ x ∈ p, x ∈ zs) ∧ ps.flatten.length = zs.length
theorem srt_mem {x : Int} {zs : List Int} : x ∈ srt zs ↔ x ∈ zs := List.mem_mergeSort
theorem flat_take (ps : List (List Int)) {k : Nat} (hk : k < ps.length) : (ps.take (k + 1)).flatten = (ps.take k).flatten ++ ps[k] := by
 rw [List.take_succ_eq_append_getElem hk, List.flatten_append]
 simp
theorem flat_len (ps : List (List Int)) (k : Nat) : (ps.take k).flatten.length ≤ ps.flatten.length := by
 conv => rhs; rw [← List.take_append_drop k ps, List.flatten_append, List.length_append]
 omega
theorem Ints.grown_below {w w' : World} {B : Nat} {v : Value} {xs : List Int} {W : World} (h : Ints w B v xs) (hB : Below B W w) (hg : w.grownBy w' v.ownBlock) (hz : B ≤ w.heap.size) : Below B W w' :=
 hB.grown hg hz (fun k e => (h.own_ge e).1)
theorem Ints.rowA {w : World} {B n cap : Nat} {A : Option Addr} {zs : List Int} (h : Ints w B (.slice A n cap) zs) : n = zs.length ∧ RowI w A zs := by
 obtain ⟨ad, cp, e⟩ := h.shape
 simp only [Value.slice.injEq] at e
 obtain ⟨rfl, rfl, rfl⟩ := e
 refine ⟨rfl, fun h0 => ?_⟩
 obtain ⟨g, cap', e, _, hl⟩ := h.form h0
 simp only [Value.slice.injEq] at e
 obtain ⟨rfl, _, rfl⟩ := e
 exact ⟨g, 0, rfl, hl, fun k hk => by rw [Nat.zero_add]; exact h.cell hk⟩
set_option maxRecDepth 100000 in
set_option maxHeartbeats 4000000 in
theorem spDiv_any (ps : List (List Int)) (A : Option Addr) (c : Nat) (zs : List Int) (D : Option Addr) (d : Nat) (w : World) (hP : RowD w A ps) (hZ : RowI w D zs) (hb : ps.length ≤ 4294967296) (hf : ps.flatten.length ≤ 4294967296) (hz : zs.length ≤ 4294967296) :
  Calls Tryz.prog 222 #[.slice A ps.length c, .slice D zs.length d] w fun e w' => IfB (DivOk ps zs) e ∧ Below w.heap.size w w' := by
 have HP := hide (fun W (h : Below w.heap.size w W) => hP.below h)
 have HZ := hide (fun W (h : Below w.heap.size w W) => hZ.below h)
 have HS := hide (fun xs A c W h hb => slIsSortedI_any xs A c W h hb)
 have HSo := hide (fun v xs W (h : Ints W w.heap.size v xs) (hb : xs.length ≤ 4294967296) => sortI_any w.heap.size v xs W h hb)
 have HE := hide (fun xs E e W (h1 : RowI W E xs) (h2 : RowI W D zs) (hx : xs.length ≤ 4294967296) => slEqualI_any xs zs E D e d W h1 h2 hx hz)
 have HF := hide (fun k => flat_len ps k)
 obtain ⟨Z, hZz⟩ : ∃ Z, w.heap.size = Z := ⟨_, rfl⟩
 rw [hZz] at HP HZ HSo ⊢
 have HZe := hide hZz
 clear hP hZ hZz
 go_enter Tryz.func222, Tryz.ntmps222
 go_wp2
 go_loopw [5, 10] (fun av iv wr => ∃ k : Nat, k ≤ ps.length ∧ iv = .int .i64 k ∧ Hid (Ints wr Z av (ps.take k).flatten) ∧ Hid (∀ j (hj : j < ps.length), j < k → 0 < ps[j].length) ∧ Hid (Below Z w wr)) (fun _ iv _ => ps.length - (intOf iv).toNat)
 case atStart => exact ⟨0, Nat.zero_le _, rfl, hide (Ints.nil_ _ _), hide fun j _ h => absurd h (by omega), hide (HZe.out ▸ Below.refl _ _)⟩
 case round =>
  obtain ⟨k, hk, rfl, HI, HN, HB⟩ := hrel
  by_cases hlt : k < ps.length
  ·obtain ⟨b, o, rfl, _, hc⟩ := HP.out wr HB.out (by omega)
   obtain ⟨E, e, ck, hr⟩ := hc k hlt
   have hk0 : (0 : Int) ≤ (k : Int) := by omega
   have hk1 : (k : Int) < (ps.length : Int) := by omega
   have HFl := hide (flat_take ps hlt)
   have hfl := HF.out (k + 1)
   rw [HFl.out, List.length_append] at hfl
   obtain ⟨p, hp⟩ : ∃ p, ps[k] = p := ⟨_, rfl⟩
   rw [hp] at ck hr HFl hfl
   have HPk := hide hp
   obtain ⟨pre, hpre⟩ : ∃ pre, (ps.take k).flatten = pre := ⟨_, rfl⟩
   rw [hpre] at HI HFl hfl
   clear hp hc hpre
   by_cases h0 : p.length = 0
   ·have hb0 : ((p.length : Int) == 0) = true := by simp [h0]
    have hb1 : (p.length == 0) = true := by simp [h0]
    clear hr HI HN
    go_wp2
    go_ret
    exact ⟨⟨false, rfl, fun h => Bool.noConfusion h⟩, HB.out⟩
   ·have hb0 : ((p.length : Int) == 0) = false := by simp [h0]
    have hb1 : (p.length == 0) = false := by simp [h0]
    have HSx := hide (HS.out p E e wr hr (by omega))
    have HR := hide hr
    clear hr
    go_wp2_with fail
    (with_reducible refine HSx.out.mono ?_)
    rintro en W3 ⟨⟨b1, rfl⟩, q, rfl⟩
    cases b1
    ·go_wp2
     go_ret
     exact ⟨⟨false, rfl, fun h => Bool.noConfusion h⟩, belowN HB.out q⟩
    ·obtain ⟨b2, o2, rfl, hb2, hc2⟩ := HR.out (by omega)
     have HI3 := hide (HI.out.drewN q)
     have HB3 := hide (belowN HB.out q)
     have hz3 := HB3.out.size
     have hcc : ∀ j (hj : j < p.length), (wr.drewN q).cell? ⟨b2, o2 + j, none⟩ = some (.int .i64 p[j]) := hc2
     have HN2 := hide (show ∀ j (hj : j < ps.length), j < k + 1 → 0 < ps[j].length from fun j hj h => by
      by_cases e : j < k
      ·exact HN.out j hj e
      ·obtain rfl : j = k := by omega
       rw [HPk.out]; omega)
     have HZe2 := HZe.out
     clear hc2 HSx HR HI HB HN
     go_wp2_with (at_builtin; refine wpList_app_row rfl (.tmp 22) (.tmp 23) rfl Z _ pre rfl HI3.out b2 o2 p.length e p rfl rfl hcc (by omega) (by omega) ?_; intro v1 wd hown2 hg1; have hB4 := HI3.out.grown_below HB3.out hg1 (by omega))
     have HI4 := hide (HFl.out ▸ hown2)
     have HB4 := hide hB4
     clear hown2 hB4 hg1 HI3 HB3 hcc
     go_roundw
     case rel => exact ⟨k + 1, hlt, by go_num, HI4, HN2, HB4⟩
     case measure => simp [intOf]; omega
  ·obtain rfl : k = ps.length := by omega
   rw [List.take_length] at HI
   have HSx := hide (HSo.out _ _ wr HI.out hf)
   have hzz := HB.out.size
   have HZe2 := HZe.out
   go_wp2_with fail
   (with_reducible refine HSx.out.mono ?_)
   rintro en W3 ⟨rfl, hI3, hg3⟩
   have hB3 := HI.out.grown_below HB.out hg3 (by omega)
   obtain ⟨ad, cp, rfl⟩ := hI3.shape
   obtain ⟨_, hra⟩ := hI3.rowA
   have HEx := hide (HE.out (srt ps.flatten) ad cp W3 hra (HZ.out W3 hB3) (by rw [srt_len]; exact hf))
   have HB3 := hide hB3
   obtain ⟨bq, hbq⟩ : ∃ bq, decide (srt ps.flatten = zs) = bq := ⟨_, rfl⟩
   rw [hbq] at HEx
   have HBq := hide hbq
   clear hI3 hg3 hB3 hra HSx HI hbq
   by_cases h1 : 1 < ps.length
   ·have d1 : decide ((1 : Int) < (ps.length : Int)) = true := decide_eq_true (by omega)
    have d2 : decide (1 < ps.length) = true := decide_eq_true h1
    go_wp2_with (go_at_call 20; (with_reducible refine HEx.out.mono ?_); rintro en W4 ⟨rfl, q, rfl⟩)
    go_ret
    refine ⟨⟨bq, rfl, fun h => ⟨h1, fun p hp => ?_, by rw [← of_decide_eq_true (HBq.out.trans h), srt_len]⟩⟩, belowN HB3.out q⟩
    obtain ⟨j, hj, rfl⟩ := List.getElem_of_mem hp
    refine ⟨HN.out j hj hj, fun x hx => ?_⟩
    have he := of_decide_eq_true (HBq.out.trans h)
    rw [← he, srt_mem]
    exact List.mem_flatten.2 ⟨_, hp, hx⟩
   ·have d1 : decide ((1 : Int) < (ps.length : Int)) = false := decide_eq_false (by omega)
    have d2 : decide (1 < ps.length) = false := decide_eq_false h1
    clear HEx
    go_wp2
    go_ret
    exact ⟨⟨false, rfl, fun h => Bool.noConfusion h⟩, HB3.out⟩
def PtsOk (es : List Edg) (n : Nat) (ps : List (List Int)) : Prop := 1 < ps.length ∧ ∀ p ∈ ps, ∀ x ∈ p, ∃ k : Nat, x = k ∧ ∃ hk : k < es.length, 0 ≤ es[k].t ∧ es[k].t < n
theorem DivOk.pts {es : List Edg} {n : Nat} {s : Int} {ps : List (List Int)} (h : DivOk ps (lvI es s)) (he : ∀ e ∈ es, inE n e) : PtsOk es n ps := by
 refine ⟨h.1, fun p hp x hx => ?_⟩
 obtain ⟨k, rfl, hk, _⟩ := mem_lvI ((h.2.1 p hp).2 x hx)
 obtain ⟨_, _, h3, h4⟩ := he es[k] (List.getElem_mem hk)
 exact ⟨k, rfl, hk, h3, h4⟩
theorem mem_nth {ps : List (List Int)} {k : Nat} (hk : k < ps.length) : ps[k] ∈ ps := List.getElem_mem hk
theorem quiet_mo0 {P : Program} {f : FuncId} {args : Array Value} {w : World} {n : Nat} {v : Value}
  (h : Calls P f args (w.drewN n) fun e w' => e = .returned v ∧ w' = w.drewN n) : Calls P f args (w.drewN n) fun e w'' => e = .returned v ∧ ∃ m, w'' = w.drewN m :=
 h.mono fun _ _ ⟨he, hm⟩ => ⟨he, n, hm⟩
set_option maxRecDepth 100000 in
set_option maxHeartbeats 4000000 in
theorem spWts_any (L S m s : Int) (es : List Edg) (A : Option Addr) (c : Nat) (vs : List Int) (D : Option Addr) (d : Nat) (ps : List (List Int)) (P : Option Addr) (q : Nat) (w : World) (hr : RowE w A es) (hv : RowI w D vs) (hp : RowD w P ps)
  (hm : 1 ≤ m) (hs : 0 ≤ s ∧ s < vs.length) (hvl : vs.length ≤ 64) (hel : es.length ≤ 1024) (hpl : ps.length ≤ 4194304) (hok : PtsOk es vs.length ps) (hpp : ∀ p ∈ ps, p.length ≤ 9223372036854775807) :
  Calls Tryz.prog 169 #[.agg #[.int .i64 L, .int .i64 S, .slice A es.length c], .slice D vs.length d, .int .i64 m, .agg #[.int .i64 s, .slice P ps.length q]] w fun e w' => ∃ (v : Value) (b : Bool), e = .returned (.tuple #[v, .bool b]) ∧ (∃ zs : List Int, Ints w' w.heap.size v zs ∧ zs.length = ps.length) ∧ Below w.heap.size w w' := by
 obtain ⟨Z, hZ⟩ : ∃ Z, w.heap.size = Z := ⟨_, rfl⟩
 have HZ := hide hZ
 have hB0 : Below Z w ((w.alloc (.cells #[.int .i64 L, .int .i64 S, .slice A es.length c] 24)).alloc (.cells #[.int .i64 s, .slice P ps.length q] 148)) := by rw [← hZ]; exact ((Below.refl _ w).alloc (Nat.le_refl _) _).alloc (by simp) _
 have hb0 : ((w.alloc (.cells #[.int .i64 L, .int .i64 S, .slice A es.length c] 24)).alloc (.cells #[.int .i64 s, .slice P ps.length q] 148)).heap[Z]? = some (.cells #[.int .i64 L, .int .i64 S, .slice A es.length c] 24 (0, 0)) := by
  rw [heap_alloc_old _ _ (by simp; omega), ← hZ]; exact heap_alloc_new w _
 have hb1 : ((w.alloc (.cells #[.int .i64 L, .int .i64 S, .slice A es.length c] 24)).alloc (.cells #[.int .i64 s, .slice P ps.length q] 148)).heap[Z + 1]? = some (.cells #[.int .i64 s, .slice P ps.length q] 148 (0, 0)) := by
  have := heap_alloc_new (w.alloc (.cells #[.int .i64 L, .int .i64 S, .slice A es.length c] 24)) (.cells #[.int .i64 s, .slice P ps.length q] 148)
  rwa [World.size_alloc, hZ] at this
 have hz0 : ((w.alloc (.cells #[.int .i64 L, .int .i64 S, .slice A es.length c] 24)).alloc (.cells #[.int .i64 s, .slice P ps.length q] 148)).heap.size = Z + 2 := by simp; omega
 have HR := hide (fun W (h : Below Z w W) => hr.below (h.mono (Nat.le_of_eq hZ)))
 have HV := hide (fun W (h : Below Z w W) => hv.below (h.mono (Nat.le_of_eq hZ)))
 have HP := hide (fun W (h : Below Z w W) => hp.below (h.mono (Nat.le_of_eq hZ)))
 have HMn := hide (fun xs A c W h h0 hb => slMinI_any xs A c W h h0 hb)
 have HOk := hide hok
 have HPP := hide hpp
 have hp1 : 1 < ps.length := hok.1
 have hmz : (m == 0) = false := by rw [beq_eq_false_iff_ne]; omega
 have hmz2 : m ≠ 0 := by omega
 have hs0 := hs.1
 have hs1 := hs.2
 obtain ⟨j0, hj0⟩ : ∃ j0 : Nat, s = (j0 : Int) := ⟨s.toNat, by omega⟩
 subst hj0
 clear hr hv hp hok hpp hs hZ
 go_enter Tryz.func169, Tryz.ntmps169
 have c1 := (cell_of_row _ _ 0 _ _ _ hb1).trans rfl
 have c2 := (cell_of_row _ _ 1 _ _ _ hb1).trans rfl
 simp only [List.getElem?_toArray, List.getElem?_cons_zero, List.getElem?_cons_succ] at c1 c2
 obtain ⟨b, o, hD, _, hc⟩ := HV.out _ hB0 (by omega)
 have v0 := hc j0 (by omega)
 subst hD
 obtain ⟨v00, hv00⟩ : ∃ x, vs[j0]'(by omega) = x := ⟨_, rfl⟩
 rw [hv00] at v0
 clear hc hv00
 rw [← HZ.out] at c1 c2 hb0 hb1
 go_wp2_with fail
 rw [HZ.out] at c1 c2 hb0 hb1 ⊢
 clear c1 c2 v0
 generalize (w.alloc (.cells #[.int .i64 L, .int .i64 S, .slice A es.length c] 24)).alloc (.cells #[.int .i64 j0, .slice P ps.length q] 148) = W0 at hB0 hb0 hb1 hz0 ⊢
 have HB0 := hide hB0
 have HG0 := hide (fun W (h : Below (Z + 2) W0 W) => show Below Z w W ∧ W.heap[Z]? = some (.cells #[.int .i64 L, .int .i64 S, .slice A es.length c] 24 (0, 0)) ∧ W.heap[Z + 1]? = some (.cells #[.int .i64 (j0 : Int), .slice P ps.length q] 148 (0, 0)) from ⟨hB0.trans (h.mono (by omega)), (h.block Z (by omega)).trans hb0, (h.block (Z + 1) (by omega)).trans hb1⟩)
 clear hB0 hb0 hb1
 go_loopw [10, 11, 12, 26] (fun lv sv ov iv wr => ∃ (k : Nat) (zl zs : Int) (ls : List Int), k ≤ ps.length ∧ lv = .int .i64 zl ∧ sv = .int .i64 zs ∧ iv = .int .i64 k ∧ Hid (Ints wr (Z + 2) ov ls) ∧ Hid (ls.length = k) ∧ Hid (Below (Z + 2) W0 wr)) (fun _ _ _ iv _ => ps.length - (intOf iv).toNat)
 case atStart => exact ⟨0, _, _, [], Nat.zero_le _, rfl, rfl, rfl, hide (Ints.nil_ _ _), hide rfl, hide (Below.refl _ _)⟩
 case round =>
  obtain ⟨k, zl, zs, ls, hk, rfl, rfl, rfl, HI, HL, HB⟩ := hrel
  by_cases hlt : k < ps.length
  ·obtain ⟨g1, g2, g3⟩ := HG0.out wr HB.out
   obtain ⟨b2, o2, hP, _, hc2⟩ := HP.out wr g1 (by omega)
   obtain ⟨E, e, ck, hrk⟩ := hc2 k hlt
   have hk0 : (0 : Int) ≤ (k : Int) := by omega
   have hk1 : (k : Int) < (ps.length : Int) := by omega
   have HEl := hide (HOk.out.2 _ (mem_nth hlt))
   have hplk := HPP.out _ (mem_nth hlt)
   obtain ⟨p, hp⟩ : ∃ p, ps[k] = p := ⟨_, rfl⟩
   rw [hp] at ck hrk HEl hplk
   subst hP
   have HR2 := hide hrk
   clear hp hc2 hrk
   go_wp2_with fail
   obtain ⟨W1, rfl⟩ : ∃ W1, W1 = wr := ⟨_, rfl⟩
   have hpl2 : (ps.length : Int) - 1 = ((ps.length - 1 : Nat) : Int) := by omega
   go_loopw [11, 33] (fun sv iv wx => ∃ (j : Nat) (z : Int), j ≤ p.length ∧ sv = .int .i64 z ∧ iv = .int .i64 j ∧ wx = W1) (fun _ iv _ => p.length - (intOf iv).toNat)
   case atStart => exact ⟨0, 0, Nat.zero_le _, rfl, rfl, rfl⟩
   case round =>
    obtain ⟨j, z, hj, rfl, rfl, rfl⟩ := hrel
    by_cases hjl : j < p.length
    ·obtain ⟨b3, o3, hE, _, hc3⟩ := HR2.out (by omega)
     have cj := hc3 j hjl
     obtain ⟨x, hx, hxl, hx0, hxn⟩ := HEl.out p[j] (List.getElem_mem hjl)
     rw [hx] at cj
     obtain ⟨b4, o4, hA4, _, hc4⟩ := HR.out wr g1 (by omega)
     obtain ⟨_, _, e2⟩ := hc4 x hxl
     obtain ⟨t, ht⟩ : ∃ t : Nat, es[x].t = (t : Int) := ⟨es[x].t.toNat, by omega⟩
     rw [ht] at e2 hx0 hxn
     obtain ⟨b5, o5, hD5, _, hc5⟩ := HV.out wr g1 (by omega)
     simp only [Option.some.injEq, Addr.mk.injEq, and_true] at hD5
     obtain ⟨rfl, rfl⟩ := hD5
     have e5 := hc5 t (by omega)
     obtain ⟨y, hy⟩ : ∃ y, vs[t]'(by omega) = y := ⟨_, rfl⟩
     rw [hy] at e5
     obtain ⟨a0, a1, a2, _⟩ := at3 g2
     subst hE
     have hj0 : (0 : Int) ≤ (j : Int) := by omega
     have hj1 : (j : Int) < (p.length : Int) := by omega
     have hx1 : (0 : Int) ≤ (x : Int) := by omega
     have hx2 : (x : Int) < (es.length : Int) := by omega
     have ht1 : (0 : Int) ≤ (t : Int) := by omega
     subst hA4
     clear hx ht hy hc3 hc4 hc5 a0 a1
     go_wp2
     go_roundw
     case rel => exact ⟨j + 1, _, hjl, rfl, by go_num, trivial⟩
     case measure => simp [intOf]; omega
    ·obtain rfl : j = p.length := by omega
     have s1 := (cell_of_row _ _ 1 _ _ _ g3).trans rfl
     simp only [List.getElem?_toArray, List.getElem?_cons_zero, List.getElem?_cons_succ] at s1
     have HB1 := hide (HB.out)
     have hzz := HB.out.size
     have hll := HL.out
     by_cases hlast : k = ps.length - 1
     ·have hb : ((k : Int) == (ps.length : Int) - 1) = true := by rw [beq_iff_eq]; omega
      clear hlast
      go_wp2_with (at_builtin; refine wpList_app_ints rfl (.tmp 62) (.tmp 64) rfl (Z + 2) _ ls rfl (HI.out.alloc _) wr.heap.size 1 [_] rfl rfl (heap_alloc_new wr _) (by omega) (by simp; omega) ?_; intro v1 wd hown2 hg1)
      have HB4 := hide ((HI.out.alloc _).grown_below (HB.out.alloc (by omega) _) hg1 (by simp; omega))
      have HI4 := hide hown2
      clear hown2 hg1
      go_roundw
      case rel => exact ⟨k + 1, _, _, _, hlt, rfl, rfl, by go_num, HI4, hide (by rw [List.length_append, List.length_singleton, hll]), HB4⟩
      case measure => simp [intOf]; omega
     ·have hb : ((k : Int) == (ps.length : Int) - 1) = false := by rw [beq_eq_false_iff_ne]; omega
      clear hlast
      go_wp2_with (at_builtin; refine wpList_app_ints rfl (.tmp 62) (.tmp 64) rfl (Z + 2) _ ls rfl (HI.out.alloc _) wr.heap.size 1 [_] rfl rfl (heap_alloc_new wr _) (by omega) (by simp; omega) ?_; intro v1 wd hown2 hg1)
      have HB4 := hide ((HI.out.alloc _).grown_below (HB.out.alloc (by omega) _) hg1 (by simp; omega))
      have HI4 := hide hown2
      clear hown2 hg1
      go_roundw
      case rel => exact ⟨k + 1, _, _, _, hlt, rfl, rfl, by go_num, HI4, hide (by rw [List.length_append, List.length_singleton, hll]), HB4⟩
      case measure => simp [intOf]; omega
  ·obtain rfl : k = ps.length := by omega
   obtain ⟨ad, cp, rfl⟩ := HI.out.shape
   obtain ⟨_, hra⟩ := HI.out.rowA
   have hll := HL.out
   have HMx := hide (fun n => HMn.out ls ad cp (wr.drewN n) hra (by omega) (by omega))
   obtain ⟨mn, hmn⟩ : ∃ mn, minU ls (ls.length - 1) = mn := ⟨_, rfl⟩
   rw [hmn] at HMx
   obtain ⟨b6, o6, rfl, _, hc6⟩ := hra (by omega)
   obtain ⟨n, hn⟩ : ∃ n, ls.length = n + 1 := ⟨ls.length - 1, by omega⟩
   have c6 := hc6 n (by omega)
   obtain ⟨y, hy⟩ : ∃ y, ls[n]'(by omega) = y := ⟨_, rfl⟩
   rw [hy] at c6
   have HI9 := hide (show Ints wr w.heap.size (.slice (some ⟨b6, o6, none⟩) ls.length cp) ls from Ints.lower HI.out (by have := HZ.out; omega))
   have HB9 := hide (show Below w.heap.size w wr from HZ.out ▸ (HG0.out wr HB.out).1)
   have hll2 : ls.length = ps.length := HL.out
   obtain ⟨N, hN⟩ : ∃ N, ls.length = N := ⟨_, rfl⟩
   rw [hN] at HMx HI9 hn ⊢
   have e1 : (N : Int) - 1 = (n : Int) := by omega
   have e2 : (n : Int) < (N : Int) := by omega
   have e4 : IntKind.i64.wrap ((N : Int) - 1) = (n : Int) := by rw [e1]; exact IntWalk.i64_in _ (by omega)
   have e5 : IntKind.i64.wrap (n : Int) = (n : Int) := IntWalk.i64_in _ (by omega)
   have e3 : (0 : Int) ≤ (n : Int) := by omega
   have HLl := hide hll2
   clear hmn hc6 hy hra HI HG0 hll hll2 hn HL hN
   cases hd : decide (1 ≤ mn)
   ·go_wp2_with fail
    go_quiet ((go_at_call 223; exact quiet_mo0 (HMx.out _)))
    go_wp2
    go_ret2
    exact ⟨_, _, rfl, ⟨ls, HI9.out, HLl.out⟩, belowN HB9.out _⟩
   ·go_wp2_with fail
    go_quiet ((go_at_call 223; exact quiet_mo0 (HMx.out _)))
    go_wp2
    go_ret2
    exact ⟨_, _, rfl, ⟨ls, HI9.out, HLl.out⟩, belowN HB9.out _⟩
end Go.Proofs.YtbnpjoiojhnimaaGreatDoor
