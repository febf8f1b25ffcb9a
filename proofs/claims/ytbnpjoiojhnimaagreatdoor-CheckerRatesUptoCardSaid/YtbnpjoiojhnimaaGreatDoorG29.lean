import Derived.Test.YtbnpjoiojhnimaaGreatDoorG28
import Derived.Test.YtbnpjoiojhnimaaGreatDoorG22
import Derived.Test.YtbnpjoiojhnimaaGreatDoorG15
set_option linter.unusedSimpArgs false
set_option linter.unusedVariables false
/- decodable.residuals: its contract at any code of up to 64 words of up to 32 letters. -/
namespace Go.Proofs.YtbnpjoiojhnimaaGreatDoor
open Go.Maps Go.RowKit Go.Shelf
section
attribute [local go_sem] Oper.semAt_some
def addFn (cm co : Nat) : Value := .func (.func 181) #[] #[.pointer (some ⟨cm, 0, none⟩), .pointer (some ⟨co, 0, none⟩)]
theorem Strs.own_ge {w : World} {B g : Nat} {v : Value} {xs : List ByteArray} (h : Strs w B v xs) (hg : v.ownBlock = some g) : B ≤ g ∧ ∃ cs, w.heap[g]? = some (.cells cs 9 (0, 0)) := by
 rcases h.2 with ⟨rfl, _⟩ | ⟨g', cap, cur, rfl, hb, hh, _⟩
 ·cases hg
 ·obtain rfl : g' = g := by simpa [Value.ownBlock] using hg
  exact ⟨hb, _, hh⟩
theorem KX.ks {S : Nat → Prop} {mb co : Nat} {row : Option Nat} {w w' : World} (h : KX mb co row w w') (h1 : ¬ S mb) (h2 : ¬ S co) (h3 : ∀ g, row = some g → ¬ S g) : KS S w w' :=
 ⟨h.os, h.tape, h.output, h.size, fun k hk hs => h.block k hk (fun e => h1 (e ▸ hs)) (fun e => h2 (e ▸ hs)) (fun e => h3 k e.symm hs)⟩
theorem RSt.own {mb cm co B N : Nat} {v : Value} {out : List ByteArray} {W W' : World} {row : Option Nat} (h : RSt W mb cm co B v out) (hN : B ≤ N) (hg : W.grownBy W' row) (hr : ∀ r, row = some r → N ≤ r ∧ ∃ o : Obj, W.heap[r]? = some o ∧ o.isCells = false) : RSt W' mb cm co B v out := by
 obtain ⟨D, hcm, hown, hBS, hco, hfz, hst, h1, h2, h3, h4⟩ := h
 have hne : ∀ k, k < B → some k ≠ row := fun k hk e => by have := (hr k e.symm).1; omega
 refine ⟨D, hg.cell hcm (hne _ (by show cm < B; omega)), hown.kept hg (hne _ (by omega)), hBS, hg.cell hco (hne _ h3), (World.frozen?_of_block (hg.block co (World.block_lt_of_cell? W _ hco) (hne _ h3))).trans hfz, hst.keptR hg ?_, h1, h2, h3, Nat.le_trans h4 hg.size⟩
 cases hv : v.ownBlock with
 | none => exact .inl rfl
 | some g =>
  refine .inr fun e => ?_
  obtain ⟨_, o, ho, hc⟩ := hr g e.symm
  obtain ⟨_, cs, hcs⟩ := hst.own_ge hv
  rw [hcs] at ho; cases ho; cases hc
def S1 (Z k : Nat) : Prop := k < Z + 6 ∧ k ≠ Z + 1 ∧ k ≠ Z + 1 + 1 + 1
def resW (q : Int) (A : Option Addr) (n c : Nat) (w : World) : World :=
 (((((w.alloc (.cells #[.int .i64 q, .slice A n c] 27)).alloc (.map #[] 0)).alloc (.cells #[.map (some (w.heap.size + 1))] 184)).alloc (.cells #[.slice none 0 0] 25)).alloc
  (.cells #[addFn (w.heap.size + 1 + 1) (w.heap.size + 1 + 1 + 1)] 236)).alloc (.cells #[.int .i64 q, .slice A n c] 27)
theorem heap_at (W : World) (o : Obj) (n : Nat) (hn : n = W.heap.size) : (W.alloc o).heap[n]? = some o := by subst hn; exact World.alloc_heap_new W o
structure ResW (Z : Nat) (q : Int) (A : Option Addr) (n c : Nat) (w W : World) : Prop where
 size : W.heap.size = Z + 6
 below : Below Z w W
 st : RSt W (Z + 1) (Z + 1 + 1) (Z + 1 + 1 + 1) (Z + 6) (.slice none 0 0) []
 c0 : W.heap[Z]? = some (.cells #[.int .i64 q, .slice A n c] 27 (0, 0))
 ca : W.cell? ⟨Z + 1 + 1 + 1 + 1, 0, none⟩ = some (addFn (Z + 1 + 1) (Z + 1 + 1 + 1))
 c5 : W.heap[Z + 5]? = some (.cells #[.int .i64 q, .slice A n c] 27 (0, 0))
theorem resW_facts (q : Int) (A : Option Addr) (n c : Nat) (w : World) : ResW w.heap.size q A n c w (resW q A n c w) := by
 have hz : (resW q A n c w).heap.size = w.heap.size + 6 := by unfold resW; simp
 unfold resW at hz ⊢
 have hB : Below w.heap.size w ((((((w.alloc (.cells #[.int .i64 q, .slice A n c] 27)).alloc (.map #[] 0)).alloc (.cells #[.map (some (w.heap.size + 1))] 184)).alloc (.cells #[.slice none 0 0] 25)).alloc
  (.cells #[addFn (w.heap.size + 1 + 1) (w.heap.size + 1 + 1 + 1)] 236)).alloc (.cells #[.int .i64 q, .slice A n c] 27)) :=
  (((((((Below.refl _ w).alloc (Nat.le_refl _) _).alloc (by simp) _).alloc (by simp; omega) _).alloc (by simp; omega) _).alloc (by simp; omega) _)).alloc (by simp; omega) _
 have lift : ∀ (W : World) (o : Obj) (k : Nat) (x : Obj), W.heap[k]? = some x → (W.alloc o).heap[k]? = some x := fun W o k x h => (Below.heap_alloc W o k (Array.getElem?_eq_some_iff.1 h).1).trans h
 have h2 : (resW q A n c w).heap[w.heap.size + 1 + 1]? = some (.cells #[.map (some (w.heap.size + 1))] 184 (0, 0)) := lift _ _ _ _ (lift _ _ _ _ (lift _ _ _ _ (heap_at _ _ _ (by simp))))
 have h3 : (resW q A n c w).heap[w.heap.size + 1 + 1 + 1]? = some (.cells #[.slice none 0 0] 25 (0, 0)) := lift _ _ _ _ (lift _ _ _ _ (heap_at _ _ _ (by simp)))
 have h4 : (resW q A n c w).heap[w.heap.size + 1 + 1 + 1 + 1]? = some (.cells #[addFn (w.heap.size + 1 + 1) (w.heap.size + 1 + 1 + 1)] 236 (0, 0)) := lift _ _ _ _ (heap_at _ _ _ (by simp))
 have hm := World.ownsMap_made (H := Unit) (w.alloc (.cells #[.int .i64 q, .slice A n c] 27)) Tryz.prog 9 (plainElem (H := Unit) Tryz.prog 4)
 rw [World.size_alloc] at hm
 refine ⟨hz, hB, ⟨.map [], cell_of_one h2, ((((hm.alloc _).alloc _).alloc _).alloc _), ⟨⟨[], rfl⟩, fun x => rfl⟩, cell_of_one h3, ?_, Strs.nil_ _ _, by omega, by omega, by omega, by omega⟩, ?_, cell_of_one h4, ?_⟩
 ·show World.frozen? (resW q A n c w) _ = false
  simp [World.frozen?, show (resW q A n c w).heap[w.heap.size + 1 + 1 + 1]? = _ from h3]
 ·exact lift _ _ _ _ (lift _ _ _ _ (lift _ _ _ _ (lift _ _ _ _ (lift _ _ _ _ (heap_at _ _ _ rfl)))))
 ·exact heap_at _ _ _ (by simp)
theorem add_ks {mb cm co B : Nat} {v : Value} {out out' : List ByteArray} {w w' : World} {S : Nat → Prop} (h : RSt w mb cm co B v out) (ha : AddPost mb cm co B v out' w w') (h1 : ¬ S mb) (h2 : ¬ S co) (h3 : ∀ g, v.ownBlock = some g → ¬ S g) : KS S w w' := ha.2.ks h1 h2 h3
theorem RSt.own_ge {w : World} {mb cm co B g : Nat} {v : Value} {out : List ByteArray} (h : RSt w mb cm co B v out) (hg : v.ownBlock = some g) : B ≤ g ∧ ∃ cs, w.heap[g]? = some (.cells cs 9 (0, 0)) := by
 obtain ⟨D, hcm, hown, hBS, hco, hfz, hst, h1, h2, h3, h4⟩ := h
 exact hst.own_ge hg
def I1 (Z : Nat) (W6 : World) {xs : List ByteArray} (pre : List (FrsT xs)) (W : World) : Prop := (∃ v, RSt W (Z + 1) (Z + 1 + 1) (Z + 1 + 1 + 1) (Z + 6) v (addR [] (pre.map fun x => x.1.2))) ∧ KS (S1 Z) W6 W
theorem addPost_keeps {mb cm co B N : Nat} {v : Value} {out out' : List ByteArray} {w w' : World} (h : RSt w mb cm co B v out) (ha : AddPost mb cm co B v out' w w') (hN : B ≤ N) (h1 : mb < N) (h2 : co < N) : KeepsFrom N w w' :=
 ⟨ha.2.size, fun k o hk ho hc => (ha.2.block k (Array.getElem?_eq_some_iff.1 ho).1 (by omega) (by omega) (fun e => by
  obtain ⟨_, cs, hcs⟩ := h.own_ge e.symm
  rw [hcs] at ho; cases ho; cases hc)).trans ho⟩
theorem Marks.one {base D : Nat} {w : World} (h1 : base ≤ D) (h2 : w.heap[D]? = some (.deferred (some []))) : Marks base [mark D] w :=
 ⟨[D], rfl, by simp, fun E hE => by rw [List.mem_singleton.1 hE]; exact ⟨h1, h2⟩⟩
theorem frs_all {xs : List ByteArray} {ys : List (FrsT xs)} (h : ys.map Subtype.val = frs xs) : ys.map (fun x => x.1.2) = Sar.fstL (raws xs) := by
 have := congrArg (List.map Prod.snd) h
 rw [frs_rests, List.map_map] at this
 exact this
theorem nxs_all {xs : List ByteArray} {r : ByteArray} {ys : List (NxsT xs r)} (h : ys.map Subtype.val = nxs xs r) : ys.map (fun x => x.1.1) = Sar.nxtL (raws xs) r.data.toList := by
 have := congrArg (List.map Prod.fst) h
 rw [nxs_rests, List.map_map] at this
 exact this
theorem RSt.shape {w : World} {mb cm co B : Nat} {v : Value} {out : List ByteArray} (h : RSt w mb cm co B v out) : ∃ ad cap, v = .slice ad out.length cap := by
 obtain ⟨D, hcm, hown, hBS, hco, hfz, hst, h1, h2, h3, h4⟩ := h
 exact hst.shape
theorem RSt.co {w : World} {mb cm co B : Nat} {v : Value} {out : List ByteArray} (h : RSt w mb cm co B v out) : w.cell? ⟨co, 0, none⟩ = some v := by
 obtain ⟨D, hcm, hown, hBS, hco, hfz, hst, h1, h2, h3, h4⟩ := h
 exact hco
theorem RSt.strs {w : World} {mb cm co B : Nat} {v : Value} {out : List ByteArray} (h : RSt w mb cm co B v out) : Strs w B v out := by
 obtain ⟨D, hcm, hown, hBS, hco, hfz, hst, h1, h2, h3, h4⟩ := h
 exact hst
theorem RSt.row {w : World} {mb cm co B n cap : Nat} {ad : Option Addr} {out : List ByteArray} (h : RSt w mb cm co B (.slice ad n cap) out) (h0 : 0 < out.length) : ∃ g, ad = some ⟨g, 0, none⟩ ∧ B ≤ g ∧ g < w.heap.size ∧ ∀ k (hk : k < out.length), w.cell? ⟨g, k, none⟩ = some (.string out[k]) := by
 have hst := h.strs
 obtain ⟨g, cap', e, hb, hl⟩ := hst.form h0
 cases e
 exact ⟨g, rfl, hb, hl, fun k hk => hst.cell hk⟩
theorem cell_drew {W : World} {p : Addr} {v : Value} (h : W.cell? p = some v) : W.drew.cell? p = some v := h
theorem cell_aad {W : World} {a b : Obj} {p : Addr} {v : Value} (h : W.cell? p = some v) : ((W.alloc a).alloc b).drew.cell? p = some v := by
 have hl := World.block_lt_of_cell? W p h
 exact (World.cell?_alloc_lt _ _ _ (by simp; omega)).trans ((World.cell?_alloc_lt _ _ _ hl).trans h)
def S2 (Z N k : Nat) : Prop := S1 Z k ∨ k = N ∨ k = N + 1
structure NextW (Z N : Nat) (q : Int) (A : Option Addr) (n c : Nat) (x : ByteArray) (v : Value) (out : List ByteArray) (ds : List Deferred) (W6 W : World) : Prop where
 size : W.heap.size = N + 2
 base : Z + 6 ≤ N
 st : RSt W (Z + 1) (Z + 1 + 1) (Z + 1 + 1 + 1) (Z + 6) v out
 mrk : Marks (Z + 6) ds W
 ks : KS (S1 Z) W6 W
 c0 : W.heap[N]? = some (.cells #[.int .i64 q, .slice A n c] 27 (0, 0))
 c1 : W.heap[N + 1]? = some (.cells #[.string x] 9 (0, 0))
 own0 : v.ownBlock ≠ some N
 own1 : v.ownBlock ≠ some (N + 1)
theorem RSt.base {w : World} {mb cm co B : Nat} {v : Value} {out : List ByteArray} (h : RSt w mb cm co B v out) : B ≤ w.heap.size := by
 obtain ⟨D, hcm, hown, hBS, hco, hfz, hst, h1, h2, h3, h4⟩ := h
 exact h4
theorem nextW_facts (q : Int) (A : Option Addr) (n c : Nat) (x : ByteArray) (N Z : Nat) (wr W6 : World) (v : Value) (out : List ByteArray) (ds : List Deferred) (hN : wr.heap.size = N) (hst : RSt wr (Z + 1) (Z + 1 + 1) (Z + 1 + 1 + 1) (Z + 6) v out) (hM : Marks (Z + 6) ds wr) (hks : KS (S1 Z) W6 wr) :
  NextW Z N q A n c x v out ds W6 ((wr.alloc (Obj.cells #[Value.int IntKind.i64 q, Value.slice A n c] 27)).alloc (Obj.cells #[Value.string x] 9)).drew := by
 subst hN
 have hb := hst.base
 have lift : ∀ (W : World) (o : Obj) (k : Nat) (y : Obj), W.heap[k]? = some y → (W.alloc o).heap[k]? = some y := fun W o k y h => (Below.heap_alloc W o k (Array.getElem?_eq_some_iff.1 h).1).trans h
 have hg : ∀ (W : World) (o : Obj), W.grownBy (W.alloc o) none := fun W o => World.grownBy_alloc W o none
 have hn : ∀ (W : World) r, (none : Option Nat) = some r → Z + 6 ≤ r ∧ ∃ o : Obj, W.heap[r]? = some o ∧ o.isCells = false := fun W r e => by cases e
 refine ⟨by show (World.alloc _ _).heap.size = _; simp, hb, ?_, hM.kept fun D _ hD => lift _ _ _ _ (lift _ _ _ _ hD), ?_, ?_, ?_, ?_, ?_⟩
 ·have := (hst.own (Nat.le_refl _) (hg _ (Obj.cells #[Value.int IntKind.i64 q, Value.slice A n c] 27)) (hn _)).own (Nat.le_refl _) (hg _ (Obj.cells #[Value.string x] 9)) (hn _)
  exact this
 ·have := (hks.alloc (Obj.cells #[Value.int IntKind.i64 q, Value.slice A n c] 27)).alloc (Obj.cells #[Value.string x] 9)
  exact ⟨this.os, this.tape, this.output, this.size, this.block⟩
 ·exact lift _ _ _ _ (heap_at _ _ _ rfl)
 ·exact heap_at _ _ _ (by simp)
 ·intro e
  obtain ⟨_, cs, hcs⟩ := hst.own_ge e
  have := (Array.getElem?_eq_some_iff.1 hcs).1
  omega
 ·intro e
  obtain ⟨_, cs, hcs⟩ := hst.own_ge e
  have := (Array.getElem?_eq_some_iff.1 hcs).1
  omega
theorem ownFrom_marks {β : Type} {base B : Nat} {ds : List Deferred} {w0 : World} (h0 : Marks base ds w0) (hB : w0.heap.size ≤ B) : OwnFrom B (fun (_ : β) W => Marks base ds W) := by
 intro s W W' row hs hg hr
 obtain ⟨Ds, h1, h2, h3⟩ := hs
 obtain ⟨Es, e1, _, e3⟩ := h0
 obtain rfl : Ds = Es := (List.map_inj_right (fun a b e => by simpa [mark] using e)).1 (h1.symm.trans e1)
 refine ⟨Ds, h1, h2, fun D hD => ⟨(h3 D hD).1, ?_⟩⟩
 have hl := (Array.getElem?_eq_some_iff.1 (e3 D hD).2).1
 refine (hg.block D (Array.getElem?_eq_some_iff.1 (h3 D hD).2).1 fun e => ?_).trans (h3 D hD).2
 have := (hr D e.symm).1
 omega
def I2 (Z N : Nat) (out : List ByteArray) (ds : List Deferred) (Wn : World) {xs : List ByteArray} {x : ByteArray} (pre : List (NxsT xs x)) (W : World) : Prop :=
 (∃ v, RSt W (Z + 1) (Z + 1 + 1) (Z + 1 + 1 + 1) (Z + 6) v (addR out (pre.map fun x => x.1.1)) ∧ v.ownBlock ≠ some N ∧ v.ownBlock ≠ some (N + 1)) ∧ Marks (Z + 6) ds W ∧ KS (S2 Z N) Wn W
theorem I2.add {Z N : Nat} {out : List ByteArray} {ds : List Deferred} {Wn : World} {xs : List ByteArray} {x : ByteArray} {pre : List (NxsT xs x)} {y : NxsT xs x} {W W' : World} {v : Value} (hz : Wn.heap.size = N + 2) (hb : Z + 6 ≤ N)
  (hst : RSt W (Z + 1) (Z + 1 + 1) (Z + 1 + 1 + 1) (Z + 6) v (addR out (pre.map fun x => x.1.1))) (ho0 : v.ownBlock ≠ some N) (ho1 : v.ownBlock ≠ some (N + 1)) (hmk : Marks (Z + 6) ds W) (hks : KS (S2 Z N) Wn W)
  (ha : AddPost (Z + 1) (Z + 1 + 1) (Z + 1 + 1 + 1) (Z + 6) v (add1R (addR out (pre.map fun x => x.1.1)) (ofRaw y.1.1)) W W') : KeepsFrom Wn.heap.size W W' ∧ KS (S2 Z N) W W' ∧ I2 Z N out ds Wn (pre ++ [y]) W' := by
 have hk2 : KS (S2 Z N) W W' := add_ks hst ha
  (fun h => by rcases h with h | h | h; exact h.2.1 rfl; omega; omega)
  (fun h => by rcases h with h | h | h; exact h.2.2 rfl; omega; omega)
  (fun g hg h => by
   rcases h with h | h | h
   ·have := (hst.own_ge hg).1
    have := h.1
    omega
   ·exact ho0 (by rw [hg, h])
   ·exact ho1 (by rw [hg, h]))
 have hsz := hks.size
 refine ⟨addPost_keeps hst ha (by omega) (by omega) (by omega), hk2, ?_, ?_, hks.trans hk2⟩
 ·obtain ⟨⟨v', h', hv⟩, _⟩ := ha
  refine ⟨v', ?_, ?_, ?_⟩
  ·rw [List.map_append, List.map_cons, List.map_nil, addR_snoc]
   exact h'
  ·rcases hv with e | ⟨g, hg, e⟩
   ·rw [e]; exact ho0
   ·rw [e]; intro e2; cases e2; omega
  ·rcases hv with e | ⟨g, hg, e⟩
   ·rw [e]; exact ho1
   ·rw [e]; intro e2; cases e2; omega
 ·refine hmk.kept fun D hD hd => (ha.2.block D (Array.getElem?_eq_some_iff.1 hd).1 (by omega) (by omega) fun e => ?_).trans hd
  obtain ⟨_, cs, hcs⟩ := hst.own_ge e.symm
  rw [hcs] at hd
  cases hd
theorem rowTblk {w : World} {A : Option Addr} {xs : List ByteArray} (h : RowT w A xs) (h0 : 0 < xs.length) : ∃ a, A = some a ∧ a.block < w.heap.size := by
 obtain ⟨b, o, rfl, hb, _⟩ := h h0
 exact ⟨_, rfl, hb⟩
set_option maxRecDepth 100000 in
set_option maxHeartbeats 4000000 in
theorem residuals_any (q : Int) (A : Option Addr) (cap : Nat) (xs : List ByteArray) (w : World) (hR : RowT w A xs) (hn : xs.length ≤ 64) (hs : ∀ x ∈ xs, x.size ≤ 32) :
  Calls Tryz.prog 116 #[.agg #[.int .i64 q, .slice A xs.length cap]] w fun e w' => ∃ v out, e = .returned v ∧ Strs w' w.heap.size v out ∧ raws out = resS xs ∧ Below w.heap.size w w' := by
 refine (callsIn_wide (n := 3)).1 ?_
 have hmm := @run_makeMap Tryz.prog
 have hsf : ∀ (a : Addr) (m : Mode) (fn : Fn) (first cap : Array Value) (W : World), (store a (.func fn first cap) m).run Tryz.prog W = stored Tryz.prog W a (.func fn first cap) m := fun a m fn first cap W => run_store Tryz.prog W a _ m rfl
 obtain ⟨Z, hZ⟩ : ∃ Z, w.heap.size = Z := ⟨_, rfl⟩
 have HF := hide (fun W => callsIn_wide (n := 2).2 (firsts_in q A xs.length cap W))
 refine callsIn_of_wp_marks Tryz.func116 rfl trivial ?_ rfl
 simp only [Tryz.ntmps116, List.size_toArray, List.length_cons, List.length_nil, Nat.reduceAdd, Nat.reduceSub, Array.replicate_succ, Array.replicate_zero, List.push_toArray, List.append_toArray, List.nil_append, List.cons_append]
 have hW := resW_facts q A xs.length cap w
 rw [hZ] at hW
 gi_wp2_with fail
 refine ⟨trivial, ?_⟩
 (with_reducible refine (HF.out _).mono ?_)
 rintro e w6 ⟨rfl, rfl⟩
 have hsz : (((((w.alloc (Obj.cells #[Value.int IntKind.i64 q, Value.slice A xs.length cap] 27)).alloc (Obj.map #[] 0)).alloc (Obj.cells #[Value.map (some (Z + 1))] 184)).alloc (Obj.cells #[Value.slice none 0 0] 25)).alloc
  (Obj.cells #[addFn (Z + 1 + 1) (Z + 1 + 1 + 1)] 236)).heap.size = Z + 5 := by simp [hZ]
 unfold addFn at hsz
 rw [hsz]
 unfold resW addFn at hW
 rw [hZ] at hW
 generalize ((((((w.alloc (Obj.cells #[Value.int IntKind.i64 q, Value.slice A xs.length cap] 27)).alloc (Obj.map #[] 0)).alloc (Obj.cells #[Value.map (some (Z + 1))] 184)).alloc (Obj.cells #[Value.slice none 0 0] 25)).alloc
  (Obj.cells #[Value.func (Fn.func 181) #[] #[Value.pointer (some { block := Z + 1 + 1, off := 0 }), Value.pointer (some { block := Z + 1 + 1 + 1, off := 0 })]] 236)).alloc (Obj.cells #[Value.int IntKind.i64 q, Value.slice A xs.length cap] 27)) = W6 at hW ⊢
 clear hsz hmm hsf HF
 gi_wp2
 have HRow := hide (show ∀ W, KS (S1 Z) W6 W → RowT W A xs from fun W hW7 => by
  intro h0
  obtain ⟨b, o, hAb, hbl, hc⟩ := hR h0
  have hB : Below Z w W := hW.below.trans (hW7.mono (T := fun k => k < Z) (fun k hk => ⟨by omega, by omega, by omega⟩) |>.below (fun k hk => hk) (by have := hW.size; omega))
  rw [hZ] at hbl
  refine ⟨b, o, hAb, Nat.lt_of_lt_of_le (by omega) hB.size, fun k hk => ?_⟩
  exact (hB.cell (p := ⟨b, o + k, none⟩) hbl).trans (hc k hk))
 have hsz6 := hW.size
 have hS1 : ∀ k, W6.heap.size ≤ k → ¬ S1 Z k := fun k hk h => by have := h.1; omega
 have HW := hide hW
 have hst6 := hW.st
 have hca6 := hW.ca
 have hc5 := hW.c5
 clear hW
 refine wpIn_rangeFunc_ownH rfl (by omega) (gf := 193) (lb := #[.pointer (some ⟨Z + 5, 0, none⟩)]) rfl trivial (enters_of Tryz.func193 (by kernel_rfl) rfl)
  (firstsf_stops 2 (by omega) (Z + 5) cap xs A (by omega) (KS (S1 Z)) (KS.refl _) (fun h k => h.trans k) W6
   (fun W W' hW hK => ?k1))
  (fun h k => h.trans k) (ks_b hS1) (Below.refl _ _) (fun _ => rfl)
  (I1 Z W6)
  (fun _ _ _ => False)
  (OwnFrom.and (fun s X Y row hs hg hr => ?own1) (ownFrom_ks (fun k h1 _ => hS1 k h1) (Nat.le_refl _)))
  (fun _ _ _ _ _ hs _ _ => hs)
  ⟨⟨_, hst6⟩, KS.refl _ _⟩
  (fun x a' W => a' = { tmps := #[.agg #[.int .i64 q, .slice A xs.length cap], .pointer (some ⟨Z, 0, none⟩), .slice none 0 0, .pointer (some ⟨Z + 1 + 1, 0, none⟩), .pointer (some ⟨Z + 1 + 1 + 1, 0, none⟩), .pointer (some ⟨Z + 1 + 1 + 1 + 1, 0, none⟩), undef, .string ⟨x.1.2.toArray⟩, undef, undef, .map (some (Z + 1)), .func (.func 181) #[] #[.pointer (some ⟨Z + 1 + 1, 0, none⟩), .pointer (some ⟨Z + 1 + 1 + 1, 0, none⟩)], .agg #[.int .i64 q, .slice A xs.length cap], .func (.func 193) #[] #[.pointer (some ⟨Z + 5, 0, none⟩)], .string x.1.1, .string ⟨x.1.2.toArray⟩, undef, undef, undef, undef, undef, undef, undef, undef, undef, undef, undef, undef, undef, undef, undef, undef, undef, undef, undef, undef, undef, undef, undef, undef, undef, undef, undef, undef], defers := [] })
  ?hax ?assign ?body ?done ?stop
 case k1 =>
  have h1 : KS (S1 Z) W6 W' := (KS.of_below hW (fun k hk => by have := hk.1; omega)).trans hK
  refine ⟨HRow.out _ h1, ?_⟩
  exact h1.cell (p := ⟨Z + 5, 1, none⟩) (by rw [cell_of_row W6 _ _ _ _ _ hc5]; rfl) ⟨by show Z + 5 < _; omega, by show Z + 5 ≠ _; omega, by show Z + 5 ≠ _; omega⟩
 case own1 =>
  obtain ⟨v, h⟩ := hs
  exact ⟨v, h.own (by omega) hg hr⟩
 case hax =>
  intro x a' s X Y row hs hg hrow
  exact hs
 case assign =>
  rintro l pre x W K hI hK
  simp only [encF] at hK ⊢
  gi_wp2
  exact hK _ _ (KeepsFrom.refl _ _) (KS.refl _ _) hI rfl
 case body =>
  rintro l pre x a' W _ _ ⟨⟨v, hst⟩, hks⟩ rfl hlen
  have hca := hks.cell hca6 ⟨by show Z + 1 + 1 + 1 + 1 < _; omega, by show Z + 1 + 1 + 1 + 1 ≠ _; omega, by show Z + 1 + 1 + 1 + 1 ≠ _; omega⟩
  have hmem := frs_mem x.2
  have hfl := fstL_len (raws xs)
  rw [raws_len] at hfl
  have hal := addR_len [] (pre.map fun x => x.1.2)
  have hfr : (frs xs).length = (Sar.fstL (raws xs)).length := by rw [← frs_rests, List.length_map]
  have hmul : xs.length * xs.length ≤ 64 * 64 := Nat.mul_le_mul hn hn
  rw [List.length_map, List.length_nil] at hal
  have hxs : x.1.2.length ≤ 32 := sufs_size (W := raws xs) (n := 32) (fun y hy => by obtain ⟨z, hz, rfl⟩ := List.mem_map.1 hy; simpa using hs z hz) ((Sar.fstL_iff.1 hmem).suf)
  have HAdd := hide (rAdd_any (ofRaw x.1.2) (by rw [ofRaw_size]; omega) (Z + 1) (Z + 1 + 1) (Z + 1 + 1 + 1) (Z + 6) v _ W hst (by omega))
  unfold ofRaw at HAdd
  unfold addFn at hca
  have hI2 : ∀ W', AddPost (Z + 1) (Z + 1 + 1) (Z + 1 + 1 + 1) (Z + 6) v (add1R (addR [] (pre.map fun x => x.1.2)) (ofRaw x.1.2)) W W' → KeepsFrom W6.heap.size W W' ∧ KS (S1 Z) W W' ∧ I1 Z W6 (pre ++ [x]) W' := by
   intro W' ha
   have hk2 : KS (S1 Z) W W' := add_ks hst ha (fun h => h.2.1 rfl) (fun h => h.2.2 rfl) (fun g hg h => by have := (hst.own_ge hg).1; have := h.1; omega)
   refine ⟨addPost_keeps hst ha (by omega) (by omega) (by omega), hk2, ?_, hks.trans hk2⟩
   obtain ⟨⟨v', h', _⟩, _⟩ := ha
   refine ⟨v', ?_⟩
   rw [List.map_append, List.map_cons, List.map_nil, addR_snoc]
   exact h'
  have HI2 := hide hI2
  clear hst hks hmem hfl hal hfr hmul hI2
  gi_wp2_with fail
  refine ⟨trivial, ?_⟩
  (with_reducible refine (CallsIn.inRound l (callsIn_wide.2 HAdd.out)).mono ?_)
  rintro e w' ⟨rfl, ha⟩
  have HR2 := hide (HI2.out w' ha)
  clear ha HAdd HI2
  gi_wp2
  exact HR2.out
 case done =>
  rintro D ys W hD hys ⟨⟨v, hst⟩, hks⟩ hK
  have hM : Marks (Z + 6) [mark D] W := Marks.one (by omega) hK
  have hr0 : raws (addR [] (ys.map fun x => x.1.2)) = Sar.addL [] (Sar.fstL (raws xs)) := by rw [raws_addR, frs_all hys]; rfl
  obtain ⟨out, hout⟩ : ∃ out, addR [] (ys.map fun x => x.1.2) = out := ⟨_, rfl⟩
  rw [hout] at hst hr0
  have HG := hide (show Sar.Good (raws xs) (raws out) ∧ Sar.resF (raws xs) ((Sar.sufs (raws xs)).length + 1) 0 (raws out) = Sar.res (raws xs) from ⟨by rw [hr0]; exact Sar.Good.one _, by rw [hr0]; rfl⟩)
  clear hr0 hout hys hK hc5
  have hL := sufs_len (W := raws xs) (n := 32) (fun y hy => by obtain ⟨z, hz, rfl⟩ := List.mem_map.1 hy; simpa using hs z hz)
  rw [raws_len] at hL
  obtain ⟨L, hLe⟩ : ∃ L, (Sar.sufs (raws xs)).length = L := ⟨_, rfl⟩
  rw [hLe] at HG hL
  have HLe := hide hLe
  clear hLe
  gi_wp2
  refine wpIn_loop (fun a' W => ∃ u8 u19 u20 u21 u22 u23 u24 u25 u26 u27 u28 u29 u30 u31 u32 u33 u34 u35 ds, (∃ (i f : Nat) (v : Value) (out : List ByteArray), u8 = .int .i64 (i : Int) ∧ f + i = L + 1 ∧ i ≤ out.length ∧ RSt W (Z + 1) (Z + 1 + 1) (Z + 1 + 1 + 1) (Z + 6) v out ∧ Hid (Sar.Good (raws xs) (raws out) ∧ Sar.resF (raws xs) f i (raws out) = Sar.res (raws xs)) ∧ Marks (Z + 6) ds W ∧ KS (S1 Z) W6 W) ∧ a' = { tmps := #[.agg #[.int .i64 q, .slice A xs.length cap], .pointer (some ⟨Z, 0, none⟩), .slice none 0 0, .pointer (some ⟨Z + 1 + 1, 0, none⟩), .pointer (some ⟨Z + 1 + 1 + 1, 0, none⟩), .pointer (some ⟨Z + 1 + 1 + 1 + 1, 0, none⟩), undef, undef, u8, undef, .map (some (Z + 1)), .func (.func 181) #[] #[.pointer (some ⟨Z + 1 + 1, 0, none⟩), .pointer (some ⟨Z + 1 + 1 + 1, 0, none⟩)], .agg #[.int .i64 q, .slice A xs.length cap], .func (.func 193) #[] #[.pointer (some ⟨Z + 5, 0, none⟩)], undef, undef, undef, undef, undef, u19, u20, u21, u22, u23, u24, u25, u26, u27, u28, u29, u30, u31, u32, u33, u34, u35, undef, undef, undef, undef, undef, undef, undef, undef], defers := ds })
   (fun a' _ => L + 1 - (intOf (a'.tmps.getD 8 undef)).toNat) ?_ ?_
  ·refine ⟨_, _, _, _, _, _, _, _, _, _, _, _, _, _, _, _, _, _, _, ⟨0, L + 1, v, out, rfl, rfl, Nat.zero_le _, hst, HG, hM, hks⟩, rfl⟩
  ·rintro a' wr ⟨u8, u19, u20, u21, u22, u23, u24, u25, u26, u27, u28, u29, u30, u31, u32, u33, u34, u35, ds, ⟨i, f, v, out, rfl, hfi, hio, hst, HG, hM, hks⟩, rfl⟩
   dsimp only
   have hlo : out.length ≤ L := by have := HG.out.1.len; rw [raws_len, HLe.out] at this; exact this
   obtain ⟨ad, cp, rfl⟩ := hst.shape
   have hco := hst.co
   have HST := hide hst
   have HM := hide hM
   have HKS := hide hks
   clear hM hks
   by_cases hlt : i < out.length
   ·have hi0 : (0 : Int) ≤ (i : Int) := by omega
    have hi1 : (i : Int) < (out.length : Int) := by omega
    obtain ⟨g, rfl, hbg, hgl, hcell⟩ := hst.row (by omega)
    have hce := hcell i hlt
    have HX := hide (show (raws out)[i]? = some out[i].data.toList by simp [raws, hlt])
    obtain ⟨x, hx⟩ : ∃ x, out[i] = x := ⟨_, rfl⟩
    rw [hx] at hce HX
    clear hx hcell hst
    by_cases he : x = ⟨#[]⟩
    ·subst he
     have hem : ((⟨#[]⟩ : ByteArray).toList == (⟨#[]⟩ : ByteArray).toList) = true := by simp
     have HG2 := hide (show Sar.Good (raws xs) (raws out) ∧ Sar.resF (raws xs) (f - 1) (i + 1) (raws out) = Sar.res (raws xs) from ⟨HG.out.1, by
      have := HG.out.2
      rw [show f = (f - 1) + 1 by omega, Sar.resGo_step HX.out] at this
      exact this⟩)
     clear HG HX
     gi_wp2
     refine ⟨⟨_, _, _, _, _, _, _, _, _, _, _, _, _, _, _, _, _, _, _, ?rel, rfl⟩, ?measure⟩
     case rel => exact ⟨i + 1, f - 1, _, out, by go_num, by omega, hlt, HST.out, HG2, HM.out, HKS.out⟩
     case measure => simp [intOf]; omega
    ·have hne : x.toList.isEmpty = false := by
      rw [ByteArray.toList_eq]
      cases x with | mk a => cases a with | mk l => cases l with
      | nil => exact absurd rfl he
      | cons _ _ => rfl
     have hd0 : wr.cell? ⟨Z, 0, none⟩ = some (.int .i64 q) := HKS.out.cell (p := ⟨Z, 0, none⟩) (by rw [cell_of_row W6 _ _ _ _ _ HW.out.c0]; rfl) ⟨by show Z < _; omega, by show Z ≠ _; omega, by show Z ≠ _; omega⟩
     have hd1 : wr.cell? ⟨Z, 1, none⟩ = some (.slice A xs.length cap) := HKS.out.cell (p := ⟨Z, 1, none⟩) (by rw [cell_of_row W6 _ _ _ _ _ HW.out.c0]; rfl) ⟨by show Z < _; omega, by show Z ≠ _; omega, by show Z ≠ _; omega⟩
     have HNx := hide (fun W => nexts_in q A xs.length cap x W)
     gi_wp2
     refine wpIn_wide.2 ?_
     go_region_held3 (fun W => W.cell? ⟨Z, 0, none⟩ = some (.int .i64 q) ∧ W.cell? ⟨Z, 1, none⟩ = some (.slice A xs.length cap) ∧ W.cell? ⟨Z + 1 + 1 + 1, 0, none⟩ = some (.slice (some ⟨g, 0, none⟩) out.length cp) ∧ W.cell? ⟨g, i, none⟩ = some (.string x))
      (first | with_reducible exact ⟨cell_drew hd0, cell_drew hd1, cell_drew hco, cell_drew hce⟩ | with_reducible exact ⟨cell_aad hd0, cell_aad hd1, cell_aad hco, cell_aad hce⟩)
      ((go_at_call 135; with_reducible refine (HNx.out _).mono ?_; rintro e w7 ⟨rfl, rfl⟩))
     obtain ⟨N, hN⟩ : ∃ N, wr.heap.size = N := ⟨_, rfl⟩
     have hNF := nextW_facts q A xs.length cap x N Z wr W6 _ out ds hN HST.out HM.out HKS.out
     rw [hN]
     generalize ((wr.alloc (Obj.cells #[Value.int IntKind.i64 q, Value.slice A xs.length cap] 27)).alloc (Obj.cells #[Value.string x] 9)).drew = Wn at hNF ⊢
     rw [hN] at hgl
     clear hd0 hd1 hco hce hN HNx hne
     gi_wp2
     have hcaN := hNF.ks.cell hca6 ⟨by show Z + 1 + 1 + 1 + 1 < _; omega, by show Z + 1 + 1 + 1 + 1 ≠ _; omega, by show Z + 1 + 1 + 1 + 1 ≠ _; omega⟩
     have hs2 : ∀ k, Wn.heap.size ≤ k → ¬ S2 Z N k := fun k hk h => by
      have := hNF.size
      have := hNF.base
      rcases h with h | h | h
      ·have := h.1; omega
      ·omega
      ·omega
     refine wpIn_rangeFunc_ownH rfl (by omega) (gf := 195) (lb := #[.pointer (some ⟨N, 0, none⟩), .pointer (some ⟨N + 1, 0, none⟩)]) rfl trivial (enters_of Tryz.func195 (by kernel_rfl) rfl)
      (nextsf_stops 2 (by omega) N (N + 1) cap xs x A (by omega) (KS (S2 Z N)) (KS.refl _) (fun h k => h.trans k) Wn
       (fun W W' hW hK => ?k2))
      (fun h k => h.trans k) (ks_b hs2) (Below.refl _ _) (fun _ => rfl)
      (I2 Z N out ds Wn)
      (fun _ _ _ => False)
      (OwnFrom.and (fun s X Y row hs hg hr => ?own2) (OwnFrom.and (ownFrom_marks hNF.mrk (Nat.le_refl _)) (ownFrom_ks (fun k h1 _ => hs2 k h1) (Nat.le_refl _))))
      (fun _ _ _ _ _ hs _ _ => hs)
      ⟨⟨_, hNF.st, hNF.own0, hNF.own1⟩, hNF.mrk, KS.refl _ _⟩
      (fun y a' W => a' = { tmps := #[.agg #[.int .i64 q, .slice A xs.length cap], .pointer (some ⟨Z, 0, none⟩), .slice none 0 0, .pointer (some ⟨Z + 1 + 1, 0, none⟩), .pointer (some ⟨Z + 1 + 1 + 1, 0, none⟩), .pointer (some ⟨Z + 1 + 1 + 1 + 1, 0, none⟩), undef, undef, .int .i64 (i : Int), .string ⟨y.1.1.toArray⟩, .map (some (Z + 1)), .func (.func 181) #[] #[.pointer (some ⟨Z + 1 + 1, 0, none⟩), .pointer (some ⟨Z + 1 + 1 + 1, 0, none⟩)], .agg #[.int .i64 q, .slice A xs.length cap], .func (.func 193) #[] #[.pointer (some ⟨Z + 5, 0, none⟩)], undef, undef, undef, undef, undef, .int .i64 (i : Int), .slice (some ⟨g, 0, none⟩) out.length cp, .int .i64 (out.length : Int), .bool true, u23, u24, .slice (some ⟨g, 0, none⟩) out.length cp, .int .i64 (i : Int), .pointer (some ⟨g, i, none⟩), .string x, .bool false, .agg #[.int .i64 q, .slice A xs.length cap], .slice (some ⟨g, 0, none⟩) out.length cp, .int .i64 (i : Int), .pointer (some ⟨g, i, none⟩), .string x, .func (.func 195) #[] #[.pointer (some ⟨N, 0, none⟩), .pointer (some ⟨N + 1, 0, none⟩)], .string ⟨y.1.1.toArray⟩, .int .i64 (y.1.2 : Int), undef, undef, undef, undef, undef, undef], defers := [] })
      ?hax2 ?assign2 ?body2 ?done2 ?stop2
     case k2 =>
      have h1 : KS (S2 Z N) Wn W' := (KS.of_below hW (fun k hk => Nat.lt_of_not_le fun h => hs2 k h hk)).trans hK
      refine ⟨HRow.out _ (hNF.ks.trans (h1.mono fun k hk => .inl hk)), ?_, ?_⟩
      ·exact h1.cell (p := ⟨N, 1, none⟩) (by rw [cell_of_row Wn _ _ _ _ _ hNF.c0]; rfl) (.inr (.inl rfl))
      ·exact h1.cell (p := ⟨N + 1, 0, none⟩) (by rw [cell_of_row Wn _ _ _ _ _ hNF.c1]; rfl) (.inr (.inr rfl))
     case own2 =>
      obtain ⟨v, h, h1, h2⟩ := hs
      exact ⟨v, h.own (by have := hNF.size; have := hNF.base; omega) hg hr, h1, h2⟩
     case hax2 =>
      intro y a' s X Y row hs hg hrow
      exact hs
     case assign2 =>
      rintro l pre y W K hI hK
      simp only [encN] at hK ⊢
      gi_wp2
      exact hK _ _ (KeepsFrom.refl _ _) (KS.refl _ _) hI rfl
     case body2 =>
      rintro l pre y a' W _ _ ⟨⟨v, hst, ho0, ho1⟩, hmk, hks⟩ rfl hlen
      have hca := hks.cell hcaN (.inl ⟨by show Z + 1 + 1 + 1 + 1 < _; omega, by show Z + 1 + 1 + 1 + 1 ≠ _; omega, by show Z + 1 + 1 + 1 + 1 ≠ _; omega⟩)
      have hmem := nxs_mem y.2
      have hfl := nxtL_len (raws xs) x.data.toList
      rw [raws_len] at hfl
      have hal := addR_len out (pre.map fun x => x.1.1)
      have hfr : (nxs xs x).length = (Sar.nxtL (raws xs) x.data.toList).length := by rw [← nxs_rests, List.length_map]
      rw [List.length_map] at hal
      have hys : y.1.1.length ≤ 32 := sufs_size (W := raws xs) (n := 32) (fun y hy => by obtain ⟨z, hz, rfl⟩ := List.mem_map.1 hy; simpa using hs z hz)
       ((Sar.nxtL_iff.1 hmem).suf (HG.out.1.2 _ (List.mem_of_getElem? HX.out)))
      have HAdd := hide (rAdd_any (ofRaw y.1.1) (by rw [ofRaw_size]; omega) (Z + 1) (Z + 1 + 1) (Z + 1 + 1 + 1) (Z + 6) v _ W hst (by omega))
      unfold ofRaw at HAdd
      unfold addFn at hca
      have HI2 := hide (fun W' ha => I2.add (W' := W') (y := y) hNF.size hNF.base hst ho0 ho1 hmk hks ha)
      clear hst hks hmem hfl hal hfr ho0 ho1 hmk
      gi_wp2_with fail
      refine ⟨trivial, ?_⟩
      (with_reducible refine (CallsIn.inRound l (callsIn_wide.2 HAdd.out)).mono ?_)
      rintro e w' ⟨rfl, ha⟩
      have HR2 := hide (HI2.out w' ha)
      clear ha HAdd HI2
      gi_wp2
      exact HR2.out
     case done2 =>
      rintro D2 ys2 W2 hD2 hys2 ⟨⟨v2, hst2, _, _⟩, hM2, hks2⟩ hK2
      have HM2 := hide (Marks.cons hNF.mrk hM2 (by have := hNF.size; have := hNF.base; omega) hD2 hK2)
      have HKS2 := hide (hNF.ks.trans (hks2.mono fun k hk => .inl hk))
      have hrw : raws (addR out (ys2.map fun x => x.1.1)) = Sar.addL (raws out) (Sar.more (raws xs) x.data.toList) := by
       rw [raws_addR, nxs_all hys2, Sar.more, if_neg]
       intro e
       exact he (by cases x with | mk a => cases a; simp at e; simp [e])
      obtain ⟨out2, ho2⟩ : ∃ out2, addR out (ys2.map fun x => x.1.1) = out2 := ⟨_, rfl⟩
      rw [ho2] at hrw hst2
      have HST2 := hide hst2
      have hlen2 : i + 1 ≤ out2.length := by
       have := Sar.addL_len (Sar.more (raws xs) x.data.toList) (raws out)
       rw [← hrw, raws_len, raws_len] at this
       omega
      have HG2 := hide (show Sar.Good (raws xs) (raws out2) ∧ Sar.resF (raws xs) (f - 1) (i + 1) (raws out2) = Sar.res (raws xs) from ⟨by rw [hrw]; exact HG.out.1.more (List.mem_of_getElem? HX.out), by
       have := HG.out.2
       rw [show f = (f - 1) + 1 by omega, Sar.resGo_step HX.out] at this
       rw [hrw]
       exact this⟩)
      clear hst2 hM2 hks2 hK2 hrw ho2 hys2 HG HX HM HKS HST
      gi_wp2
      refine ⟨⟨_, _, _, _, _, _, _, _, _, _, _, _, _, _, _, _, _, _, _, ?rel2, rfl⟩, ?measure2⟩
      case rel2 => exact ⟨i + 1, f - 1, _, out2, by go_num, by omega, hlen2, HST2.out, HG2, HM2.out, HKS2.out⟩
      case measure2 => simp [intOf]; omega
     case stop2 =>
      rintro D c pre W _ _ h _
      exact h.elim
   ·obtain rfl : i = out.length := by omega
    have hres : raws out = Sar.res (raws xs) := by
     have := HG.out.2
     rw [Sar.resGo_end (by rw [raws_len]; exact Nat.le_refl _)] at this
     exact this
    have HS := hide (sortS_any (Z + 6) _ out wr hst.strs (by omega))
    have hob : ∀ k, k < Z + 6 → some k ≠ (Value.slice ad out.length cp).ownBlock := fun k hk e => by
     have := (hst.own_ge e.symm).1
     omega
    have HEnd := hide (fun w8 (hg8 : wr.grownBy w8 (Value.slice ad out.length cp).ownBlock) => show Marks (Z + 6) ds w8 ∧ KS (S1 Z) W6 w8 ∧ w8.cell? ⟨Z + 1 + 1 + 1, 0, none⟩ = some (.slice ad out.length cp) from
     ⟨HM.out.kept fun D hD hd => (hg8.block D (Array.getElem?_eq_some_iff.1 hd).1 fun e => by
      obtain ⟨_, cs, hcs⟩ := hst.own_ge e.symm
      rw [hcs] at hd; cases hd).trans hd,
      HKS.out.grown hg8 (fun k e h => by have := h.1; exact hob k this e.symm),
      hg8.cell hco (hob _ (by show Z + 1 + 1 + 1 < _; omega))⟩)
    have HRes := hide (show raws (((raws out).mergeSort leW).map ofRaw) = resS xs by
     rw [hres]
     unfold raws resS
     rw [List.map_map]
     exact (List.map_congr_left fun x _ => raw_of x).trans (List.map_id _))
    clear hres hob hst HG HKS HM HST
    gi_wp2_with fail
    refine ⟨trivial, ?_⟩
    (with_reducible refine (callsIn_wide.2 HS.out).mono ?_)
    rintro e w8 ⟨rfl, hS8, hg8⟩
    obtain ⟨hm8, hk8, hco8⟩ := HEnd.out w8 hg8
    have HM8 := hide hm8
    have HK8 := hide hk8
    have HS8 := hide hS8
    clear hS8 hm8 hk8 hg8 HS HEnd hco
    gi_wp2
    refine leaves_marks (base := Z + 6) HM8.out fun w9 hSh => ⟨_, results_tmp rfl _ _ _, _, _, rfl, ?_, HRes.out, ?_⟩
    ·have := hSh.ownsRow HS8.out
     rw [hZ]
     refine ⟨this.1, ?_⟩
     rcases this.2 with h' | ⟨g, cap, cur, h1, h2, h3⟩
     ·exact .inl h'
     ·exact .inr ⟨g, cap, cur, h1, by omega, h3⟩
    ·have h1 := HW.out.below
     have h2 := HK8.out.below (B := Z) (a := W6)
     rw [hZ]
     exact hSh.below (h1.trans ((HK8.out.mono (T := fun k => k < Z) (fun k hk => ⟨by omega, by omega, by omega⟩)).below (fun k hk => hk) (by omega))) (by omega)
 case stop =>
  rintro D c pre W _ _ h _
  exact h.elim
end
end Go.Proofs.YtbnpjoiojhnimaaGreatDoor
namespace Go.Proofs.YtbnpjoiojhnimaaGreatDoor
open Go.RowKit Go.Shelf
section
attribute [local go_sem] Oper.semAt_some
theorem wpList_appI {w : World} {ops : Array Oper} {rest : List Oper} {o : Oper} {a : Act} {Q : Exit → Act → World → Prop} (hgd : o.guard = none) (s x : Operand)
  (ho : o.op = .call { callee := .builtin .append, args := #[s, x], argTypes := #[31, 31] })
  (B : Nat) (v : Value) (xs : List Int) (hs : a.eval s = v) (hown : Ints w B v xs)
  (g m cap : Nat) (news : List Int) (hx : a.eval x = .slice (some ⟨g, 0, none⟩) m cap) (hl : news.length = m) (hblk : ∀ k (hk : k < news.length), w.cell? ⟨g, k, none⟩ = some (.int .i64 news[k]))
  (hb : xs.length + m ≤ 4294967296) (hbase : B ≤ w.heap.size)
  (h : ∀ v' w', Ints w' B v' (xs ++ news) → w.grownBy w' v.ownBlock → (v'.ownBlock = v.ownBlock ∨ v'.ownBlock = some w.heap.size) → wpList Tryz.prog ops Q rest (a.put o.dst v') w') : wpList Tryz.prog ops Q (o :: rest) a w := by
 obtain ⟨i0, hi, hz0, hz1, hz2⟩ := info_parts infoIntA
 refine wpList_append_own_at w hgd s x 31 ho B 3 i0 _ 1 8 Tryz.underlying31 hi hz0 hz1 hz2 rfl (by decide) v xs.length (xs.map (Value.int .i64)) hs hown ⟨g, 0, none⟩ m cap (news.map (Value.int .i64)) hx (by simp [hl]) ?_ ?_ (by unfold maxLen; omega) (by omega) hbase ?_
 ·intro j u hj
  have : (⟨g, 0, none⟩ : Addr).add j = ⟨g, j, none⟩ := by unfold Addr.add; split <;> simp_all
  rw [this]
  obtain ⟨hj1, hj2⟩ := List.getElem?_eq_some_iff.1 hj
  rw [List.length_map] at hj1
  rw [hblk j hj1, ← hj2, List.getElem_map]
 ·intro u hu
  obtain ⟨b, _, rfl⟩ := List.mem_map.1 hu
  rfl
 ·intro v' w' h1 h2 _ h4
  refine h v' w' ?_ h2 h4
  unfold Ints
  rw [List.length_append, hl, List.map_append]
  exact h1
set_option maxRecDepth 100000 in
set_option maxHeartbeats 1000000 in
theorem cloneI_any (B : Nat) (v : Value) (zs : List Int) (w : World) (h : Ints w B v zs) (h0 : 0 < zs.length) (hm : zs.length ≤ 1000000) :
  Calls Tryz.prog 82 #[v] w fun e w' => ∃ v', e = .returned v' ∧ Ints w' w.heap.size v' zs ∧ w.grownBy w' none := by
 obtain ⟨g, cap, rfl, hbg, hgl⟩ := h.form h0
 have hc := fun k (hk : k < zs.length) => h.cell hk
 obtain ⟨Z, hZ⟩ : ∃ Z, w.heap.size = Z := ⟨_, rfl⟩
 have he : Ints (w.alloc (.cells #[] 3)) Z (.slice (some ⟨Z, 0, none⟩) 0 0) [] := Ints.empty_ hZ (Nat.le_refl _)
 have hcc := fun k (hk : k < zs.length) => (World.cell?_alloc_lt w (.cells #[] 3) ⟨g, k, none⟩ hgl).trans (hc k hk)
 rw [hZ] at hgl ⊢
 have q22 : ∀ (w : World) (a : Option Addr) (n c n' c' : Nat), (binOp .eql 31 (.slice a n c) (.slice none n' c')).run Tryz.prog w = .ok (.bool a.isNone) w := fun w a n c n' c' => Lib.run_eql_slice_nil w _ _ a n c n' c' Tryz.underlying31
 clear h
 go_enter Tryz.func82, Tryz.ntmps82
 go_wp2_with (at_builtin; refine wpList_appI rfl _ _ rfl Z _ [] rfl he g zs.length cap zs rfl rfl hcc (by simp; omega) (by simp [hZ]) ?_; intro v' w' hS hg hv)
 obtain ⟨ad, cp, rfl⟩ := hS.shape
 have HS := hide hS
 have hg' : (w.alloc (.cells #[] 3)).grownBy w' (some Z) := hg
 have HG := hide (show w.grownBy w' none from ⟨hg'.os, hg'.tape, hg'.output, Nat.le_trans (by simp) hg'.size, fun k hk _ => (hg'.block k (by simp; omega) (by simp; omega)).trans (Below.heap_alloc _ _ _ hk)⟩)
 clear hg hg' hv hS
 go_ret
 exact ⟨_, rfl, by simpa using HS.out, HG.out⟩
def pfB (s : ByteArray) (i : Nat) (x : ByteArray) : Bool := Lib.hasPrefix (s.extract i s.size).data.toList x.data.toList
theorem pfB_size {s x : ByteArray} {i : Nat} (h : pfB s i x = true) (hi : i ≤ s.size) : i + x.size ≤ s.size := by
 unfold pfB Lib.hasPrefix at h
 have h1 := (List.isPrefixOf_iff_prefix.1 h).length_le
 have e1 : (s.extract i s.size).data.toList.length = s.size - i := by simp
 have e2 : x.data.toList.length = x.size := by simp
 omega
set_option maxRecDepth 100000 in
set_option maxHeartbeats 1000000 in
theorem rdPred_any (x s : ByteArray) (i bw bi bo bk : Nat) (ok : Nat → Bool) (w : World) (hi : i ≤ s.size) (hs : s.size ≤ 65536) (hw : w.cell? ⟨bw, 0, none⟩ = some (.string s)) (hic : w.cell? ⟨bi, 0, none⟩ = some (.int .i64 (i : Int)))
  (ho : w.cell? ⟨bo, 0, none⟩ = some (.slice (some ⟨bk, 0, none⟩) (s.size + 1) (s.size + 1))) (hk : ∀ j, j ≤ s.size → w.cell? ⟨bk, j, none⟩ = some (.bool (ok j))) :
  Calls Tryz.prog 178 #[.string x, .pointer (some ⟨bw, 0, none⟩), .pointer (some ⟨bi, 0, none⟩), .pointer (some ⟨bo, 0, none⟩)] w fun e w' => e = .returned (.bool (pfB s i x && ok (i + x.size))) ∧ w' = w := by
 have HP := hide (strings_HasPrefix (s.extract i s.size) x w)
 have hi0 : (0 : Int) ≤ (i : Int) := by omega
 have hi1 : (i : Int) ≤ (s.size : Int) := by omega
 cases hp : pfB s i x with
 | true =>
  have hsz := pfB_size hp hi
  unfold pfB at hp
  rw [hp] at HP
  obtain ⟨m, hm⟩ : ∃ m, i + x.size = m := ⟨_, rfl⟩
  have hkm := hk m (by omega)
  rw [hm]
  obtain ⟨b, hb⟩ : ∃ b, ok m = b := ⟨_, rfl⟩
  rw [hb] at hkm ⊢
  have q1 : IntKind.i64.wrap ((i : Int) + (x.size : Int)) = (m : Int) := by rw [IntWalk.i64_in _ (by omega)]; omega
  have q2 : (0 : Int) ≤ (m : Int) := by omega
  have q3 : (m : Int) < (s.size : Int) + 1 := by omega
  clear hb hp hk hm
  go_enter Tryz.func178, Tryz.ntmps178
  go_wp2_with fail
  (with_reducible refine HP.out.mono ?_)
  rintro e w' ⟨rfl, rfl⟩
  clear HP
  go_wp2
  go_ret
  exact ⟨rfl, rfl⟩
 | false =>
  unfold pfB at hp
  rw [hp] at HP
  clear hp hk
  go_enter Tryz.func178, Tryz.ntmps178
  go_wp2_with fail
  (with_reducible refine HP.out.mono ?_)
  rintro e w' ⟨rfl, rfl⟩
  clear HP
  go_wp2
  go_ret
  exact ⟨rfl, rfl⟩
end
section
attribute [local go_sem] Oper.semAt_some
theorem yieldAny {m : Nat} (m' : Nat) {P : Program} {l : Nat} {args : Array Value} {W : World} {R : Ending → World → Prop} (h : YieldAt Fence.wide m P l args W R) : YieldAt Fence.wide m' P l args W R := by
 obtain ⟨fn, tmps, assign, body, hy, hR⟩ := h
 exact ⟨fn, tmps, assign, body, hy, hR.1, fun c cs _ => hR.2 c cs (fun d h => by cases h)⟩
structure RdG (xs : List ByteArray) (s : ByteArray) (ok : Nat → Bool) (rd : Nat → List (List Int)) : Prop where
 ok_n : ok s.size = true
 ok_s : ∀ i, i < s.size → ok i = xs.any fun x => pfB s i x && ok (i + x.size)
 rd_n : rd s.size = [[]]
 rd_s : ∀ i, i < s.size → rd i = (List.range xs.length).flatMap fun k => if pfB s i (xs.getD k ⟨#[]⟩) && ok (i + (xs.getD k ⟨#[]⟩).size) then (rd (i + (xs.getD k ⟨#[]⟩).size)).map ((k : Int) :: ·) else []
 ne : ∀ x ∈ xs, x.size ≠ 0
abbrev RdX := List Int × Nat × Nat
def encR (x : RdX) : Array Value := #[.slice (some ⟨x.2.1, 0, none⟩) x.1.length x.2.2]
def PreR (B : Nat) (x : RdX) (W : World) : Prop := Ints W B (.slice (some ⟨x.2.1, 0, none⟩) x.1.length x.2.2) x.1
def blkR (x : RdX) : Nat := x.2.1
structure KC (S : Nat → Prop) (W W' : World) : Prop where
 os : W'.os = W.os
 tape : W'.tape = W.tape
 output : W'.output = W.output
 size : W.heap.size ≤ W'.heap.size
 block : ∀ (k : Nat) (o : Obj), W.heap[k]? = some o → o.isCells = true → S k → W'.heap[k]? = some o
theorem KC.refl (S : Nat → Prop) (W : World) : KC S W W := ⟨rfl, rfl, rfl, Nat.le_refl _, fun _ _ h _ _ => h⟩
theorem KC.trans {S : Nat → Prop} {a b c : World} (h : KC S a b) (k : KC S b c) : KC S a c :=
 ⟨k.os.trans h.os, k.tape.trans h.tape, k.output.trans h.output, Nat.le_trans h.size k.size, fun i o hi hc hs => k.block i o (h.block i o hi hc hs) hc hs⟩
theorem KC.cell {S : Nat → Prop} {a w : World} (h : KC S a w) {p : Addr} {v : Value} (hp : a.cell? p = some v) (hs : S p.block) : w.cell? p = some v := by
 obtain ⟨o, ho, hc⟩ := cells_of_cell hp
 exact (World.cell?_of_block ((h.block _ o ho hc hs).trans ho.symm)).trans hp
theorem KC.frozen {S : Nat → Prop} {a w : World} (h : KC S a w) {p : Addr} {v : Value} {b : Bool} (hp : a.cell? p = some v) (hf : a.frozen? p = b) (hs : S p.block) : w.frozen? p = b := by
 obtain ⟨o, ho, hc⟩ := cells_of_cell hp
 exact (World.frozen?_of_block ((h.block _ o ho hc hs).trans ho.symm)).trans hf
theorem KC.ints {S : Nat → Prop} {a w : World} (h : KC S a w) {B : Nat} {v : Value} {zs : List Int} (hi : Ints a B v zs) (hs : ∀ g, v.ownBlock = some g → S g) : Ints w B v zs := by
 refine ⟨hi.1, ?_⟩
 rcases hi.2 with h' | ⟨g, cap, cur, rfl, h2, h3, h4⟩
 ·exact .inl h'
 ·exact .inr ⟨g, cap, cur, rfl, h2, h.block _ _ h3 rfl (hs g rfl), h4⟩
theorem kc_b {S : Nat → Prop} {w : World} (W : World) (l : Nat) (o o' : Obj) (hl : w.heap.size ≤ l) (h : W.heap[l]? = some o) (hc : o.isCells = false) (_ : o.isWalk = false) : KC S W (W.putObj l o') := by
 have hg := grownBy_putObj' W l o'
 refine ⟨hg.os, hg.tape, hg.output, hg.size, fun k x hx hxc _ => ?_⟩
 refine (hg.block k (Array.getElem?_eq_some_iff.1 hx).1 fun e => ?_).trans hx
 cases e
 rw [h] at hx; cases hx
 rw [hc] at hxc; cases hxc
def rdFn (bw by_ bl Zc bo br : Nat) : Value := .func (.func 180) #[] #[.pointer (some ⟨bw, 0, none⟩), .pointer (some ⟨by_, 0, none⟩), .pointer (some ⟨bl, 0, none⟩), .pointer (some ⟨Zc, 0, none⟩), .pointer (some ⟨bo, 0, none⟩), .pointer (some ⟨br, 0, none⟩)]
structure REnv (l bw by_ bl Zc bo bk br : Nat) (s : ByteArray) (A : Option Addr) (xs : List ByteArray) (cap : Nat) (ok : Nat → Bool) (W : World) : Prop where
 w : W.cell? ⟨bw, 0, none⟩ = some (.string s)
 y : W.cell? ⟨by_, 0, none⟩ = some (.func (.yield l) #[] #[])
 c : W.cell? ⟨Zc, 1, none⟩ = some (.slice A xs.length cap)
 row : RowT W A xs
 o : W.cell? ⟨bo, 0, none⟩ = some (.slice (some ⟨bk, 0, none⟩) (s.size + 1) (s.size + 1))
 k : ∀ j, j ≤ s.size → W.cell? ⟨bk, j, none⟩ = some (.bool (ok j))
 r : W.cell? ⟨br, 0, none⟩ = some (rdFn bw by_ bl Zc bo br)
def EB (bw by_ Zc bo bk br : Nat) (A : Option Addr) (k : Nat) : Prop := k = bw ∨ k = by_ ∨ k = Zc ∨ k = bo ∨ k = bk ∨ k = br ∨ ∃ a, A = some a ∧ k = a.block
theorem REnv.keptB {l bw by_ bl Zc bo bk br : Nat} {s : ByteArray} {A : Option Addr} {xs : List ByteArray} {cap : Nat} {ok : Nat → Bool} {W W' : World} (h : REnv l bw by_ bl Zc bo bk br s A xs cap ok W) (hz : W.heap.size ≤ W'.heap.size)
  (hk : ∀ (p : Addr) (v : Value), EB bw by_ Zc bo bk br A p.block → W.cell? p = some v → W'.cell? p = some v) : REnv l bw by_ bl Zc bo bk br s A xs cap ok W' := by
 refine ⟨hk _ _ (.inl rfl) h.w, hk _ _ (.inr (.inl rfl)) h.y, hk _ _ (.inr (.inr (.inl rfl))) h.c, fun h0 => ?_, hk _ _ (.inr (.inr (.inr (.inl rfl)))) h.o, fun j hj => hk _ _ (.inr (.inr (.inr (.inr (.inl rfl))))) (h.k j hj), hk _ _ (.inr (.inr (.inr (.inr (.inr (.inl rfl)))))) h.r⟩
 obtain ⟨b, o, rfl, hb, hc⟩ := h.row h0
 exact ⟨b, o, rfl, Nat.lt_of_lt_of_le hb hz, fun k hkk => hk _ _ (.inr (.inr (.inr (.inr (.inr (.inr ⟨_, rfl, rfl⟩)))))) (hc k hkk)⟩
theorem REnv.grown {l bw by_ bl Zc bo bk br : Nat} {s : ByteArray} {A : Option Addr} {xs : List ByteArray} {cap : Nat} {ok : Nat → Bool} {W W' : World} {row : Option Nat} (h : REnv l bw by_ bl Zc bo bk br s A xs cap ok W) (hg : W.grownBy W' row) (hne : ∀ k, EB bw by_ Zc bo bk br A k → some k ≠ row) : REnv l bw by_ bl Zc bo bk br s A xs cap ok W' :=
 h.keptB hg.size fun p v hp hc => hg.cell hc (hne _ hp)
theorem REnv.kc {l bw by_ bl Zc bo bk br : Nat} {s : ByteArray} {A : Option Addr} {xs : List ByteArray} {cap : Nat} {ok : Nat → Bool} {W W' : World} {S : Nat → Prop} (h : REnv l bw by_ bl Zc bo bk br s A xs cap ok W) (hg : KC S W W') (hS : ∀ k, EB bw by_ Zc bo bk br A k → S k) : REnv l bw by_ bl Zc bo bk br s A xs cap ok W' :=
 h.keptB hg.size fun p v hp hc => hg.cell hc (hS _ hp)
structure LSt (W : World) (bl B : Nat) (v : Value) (p : List Int) : Prop where
 c : W.cell? ⟨bl, 0, none⟩ = some v
 f : W.frozen? ⟨bl, 0, none⟩ = false
 i : Ints W B v p
 b : bl < B
 z : B ≤ W.heap.size
theorem Ints.own_ge {w : World} {B g : Nat} {v : Value} {xs : List Int} (h : Ints w B v xs) (hg : v.ownBlock = some g) : B ≤ g ∧ ∃ cs, w.heap[g]? = some (.cells cs 3 (0, 0)) := by
 rcases h.2 with ⟨rfl, _⟩ | ⟨g', cap, cur, rfl, hb, hh, _⟩
 ·cases hg
 ·obtain rfl : g' = g := by simpa [Value.ownBlock] using hg
  exact ⟨hb, _, hh⟩
theorem LSt.grown {W W' : World} {bl B : Nat} {v : Value} {p : List Int} {row : Option Nat} (h : LSt W bl B v p) (hg : W.grownBy W' row) (h1 : some bl ≠ row) (h2 : ∀ g, v.ownBlock = some g → some g ≠ row) : LSt W' bl B v p :=
 ⟨hg.cell h.c h1, (World.frozen?_of_block (hg.block bl (World.block_lt_of_cell? W _ h.c) h1)).trans h.f, World.ownsRow.kept h.i hg (by
  cases hv : v.ownBlock with
  | none => exact .inl rfl
  | some g => exact .inr (h2 g hv)), h.b, Nat.le_trans h.z hg.size⟩
theorem LSt.kc {W W' : World} {bl B : Nat} {v : Value} {p : List Int} {S : Nat → Prop} (h : LSt W bl B v p) (hg : KC S W W') (h1 : S bl) (h2 : ∀ g, B ≤ g → S g) : LSt W' bl B v p :=
 ⟨hg.cell h.c h1, hg.frozen h.c h.f h1, hg.ints h.i fun g hv => h2 g (h.i.own_ge hv).1, h.b, Nat.le_trans h.z hg.size⟩
def Fr (W : World) (bl : Nat) (v : Value) (pre : List RdX) : Prop := ∀ x ∈ pre, x.2.1 < W.heap.size ∧ x.2.1 ≠ bl ∧ v.ownBlock ≠ some x.2.1
theorem Fr.up {W W' : World} {bl : Nat} {v : Value} {pre : List RdX} (h : Fr W bl v pre) (hz : W.heap.size ≤ W'.heap.size) : Fr W' bl v pre := fun x hx => ⟨Nat.lt_of_lt_of_le (h x hx).1 hz, (h x hx).2⟩
theorem Ints.cut {w : World} {B g n cap : Nat} {p : List Int} {x : Int} (h : Ints w B (.slice (some ⟨g, 0, none⟩) n cap) (p ++ [x])) : Ints w B (.slice (some ⟨g, 0, none⟩) p.length cap) p := by
 rcases h.2 with ⟨e, _⟩ | ⟨g', cap', cur, e, h2, h3, h4, h5, h6, h7⟩
 ·cases e
 ·simp only [Value.slice.injEq, Option.some.injEq, Addr.mk.injEq, and_true, true_and] at e
  obtain ⟨rfl, e2, rfl⟩ := e
  rw [List.length_append] at h4 h7
  refine ⟨by simp, .inr ⟨g, cap, cur, rfl, h2, h3, by simp at h4; omega, h5, h6, ?_⟩⟩
  have := congrArg (List.take p.length) h7
  rw [List.take_take, List.map_append, List.take_left' (by simp)] at this
  rw [Nat.mul_one]
  rw [← this]
  congr 1
  simp
def rdStep (xs : List ByteArray) (s : ByteArray) (ok : Nat → Bool) (rd : Nat → List (List Int)) (i k : Nat) : List (List Int) :=
 if pfB s i (xs.getD k ⟨#[]⟩) && ok (i + (xs.getD k ⟨#[]⟩).size) then (rd (i + (xs.getD k ⟨#[]⟩).size)).map ((k : Int) :: ·) else []
def rdP (xs : List ByteArray) (s : ByteArray) (ok : Nat → Bool) (rd : Nat → List (List Int)) (i k : Nat) : List (List Int) := (List.range k).flatMap (rdStep xs s ok rd i)
theorem rdP_succ (xs : List ByteArray) (s : ByteArray) (ok : Nat → Bool) (rd : Nat → List (List Int)) (i k : Nat) : rdP xs s ok rd i (k + 1) = rdP xs s ok rd i k ++ rdStep xs s ok rd i k := by
 unfold rdP
 rw [List.range_succ, List.flatMap_append]
 simp
theorem rdP_pre (xs : List ByteArray) (s : ByteArray) (ok : Nat → Bool) (rd : Nat → List (List Int)) (i : Nat) {k n : Nat} (h : k ≤ n) : rdP xs s ok rd i k <+: rdP xs s ok rd i n := by
 induction n with
 | zero => (obtain rfl : k = 0 := by omega); exact List.prefix_refl _
 | succ n ih =>
  rcases Nat.lt_or_ge n k with h1 | h1
  ·obtain rfl : k = n + 1 := by omega
   exact List.prefix_refl _
  ·rw [rdP_succ]
   exact (ih h1).trans (List.prefix_append _ _)
theorem grownBy_drew (W : World) (row : Option Nat) : W.grownBy W.drew row := ⟨rfl, rfl, rfl, Nat.le_refl _, fun _ _ _ => rfl⟩
def RdPost (l bw by_ bl Zc bo bk br B : Nat) (s : ByteArray) (A : Option Addr) (xs : List ByteArray) (cap : Nat) (ok : Nat → Bool) (rd : Nat → List (List Int)) (J Jx : List RdX → World → Prop) (i : Nat) (pre : List RdX) (p : List Int) (W : World) (e : Ending) (W' : World) : Prop :=
 (∃ ys v', e = .returned (.bool true) ∧ ys.map Prod.fst = (rd i).map (p ++ ·) ∧ J (pre ++ ys) W' ∧ REnv l bw by_ bl Zc bo bk br s A xs cap ok W' ∧ LSt W' bl B v' p ∧ Fr W' bl v' (pre ++ ys) ∧ W.heap.size ≤ W'.heap.size) ∨
 (∃ ys, e = .returned (.bool false) ∧ ys.map Prod.fst <+: (rd i).map (p ++ ·) ∧ Jx (pre ++ ys) W')
set_option maxRecDepth 100000 in
set_option maxHeartbeats 4000000 in
theorem read_in (l bw by_ bl Zc bo bk br B B0 : Nat) (s : ByteArray) (A : Option Addr) (xs : List ByteArray) (cap : Nat) (ok : Nat → Bool) (rd : Nat → List (List Int)) (hRd : RdG xs s ok rd) (hxn : xs.length ≤ 64) (hss : s.size ≤ 65536) (hs0 : 0 < s.size)
  (S : Nat → Prop) (hSE : ∀ k, EB bw by_ Zc bo bk br A k → S k) (hSl : S bl) (hSB : ∀ g, B ≤ g → S g) (hEB : ∀ k, EB bw by_ Zc bo bk br A k → k < B ∧ k ≠ bl) (hB0 : B0 ≤ bl)
  (J Jx : List RdX → World → Prop) (hJ : AbidesB B0 blkR J)
  (hY : ∀ pre x W, J pre W → PreR B x W → YieldAt Fence.wide 0 Tryz.prog l (encR x) W fun e W' => (e = .returned (.bool true) ∧ J (pre ++ [x]) W' ∧ KC S W W') ∨ (e = .returned (.bool false) ∧ Jx (pre ++ [x]) W')) :
  ∀ (fuel i : Nat), i ≤ s.size → s.size - i < fuel → ∀ (pre : List RdX) (p : List Int) (v : Value) (W : World), REnv l bw by_ bl Zc bo bk br s A xs cap ok W → LSt W bl B v p → Fr W bl v pre → J pre W → p.length ≤ i → (i = 0 ∨ 0 < p.length) →
   ∀ n, CallsIn Fence.wide n Tryz.prog 180 #[.int .i64 (i : Int), .pointer (some ⟨bw, 0, none⟩), .pointer (some ⟨by_, 0, none⟩), .pointer (some ⟨bl, 0, none⟩), .pointer (some ⟨Zc, 0, none⟩), .pointer (some ⟨bo, 0, none⟩), .pointer (some ⟨br, 0, none⟩)] W
    (RdPost l bw by_ bl Zc bo bk br B s A xs cap ok rd J Jx i pre p W) := by
 intro fuel
 induction fuel with
 | zero => intro i _ h; omega
 | succ fuel ih =>
  intro i hi hf pre p v W hE hL hF hj hpi hp0 n
  by_cases hin : i = s.size
  ·have hp : 0 < p.length := by omega
   subst hin
   have hyc := hE.y
   have hwc := hE.w
   have hlc := hL.c
   have hmo : Tryz.prog.follows .mixedOrders = true := by kernel_rfl
   have hiD : Ints W.drew B v p := hL.i
   have HC := hide (callsIn_wide (n := n - 1).2 (cloneI_any B v p W.drew hiD hp (by omega)))
   have HAft := hide (fun (w1 : World) (v1 : Value) (hS1 : Ints w1 W.drew.heap.size v1 p) (hg1 : W.drew.grownBy w1 none) => show ∃ g cp, v1 = .slice (some ⟨g, 0, none⟩) p.length cp ∧ w1.cell? ⟨by_, 0, none⟩ = some (.func (.yield l) #[] #[]) ∧
     YieldAt Fence.wide (n - 1) Tryz.prog l #[.slice (some ⟨g, 0, none⟩) p.length cp] w1 fun e W' => ∃ b : Bool, e = .returned (.bool b) ∧ RdPost l bw by_ bl Zc bo bk br B s A xs cap ok rd J Jx s.size pre p W (.returned (.bool b)) W' from by
    have hgW : W.grownBy w1 none := (grownBy_drew W none).trans hg1
    obtain ⟨g, cp, rfl, hbg, hgl⟩ := hS1.form hp
    have hE1 := hE.grown hgW (by simp)
    have hL1 := hL.grown hgW (by simp) (by simp)
    have hj1 : J pre w1 := hJ pre W w1 none hj hgW (fun r e => by cases e)
    have hzD : W.drew.heap.size = W.heap.size := rfl
    have hPre : PreR B (p, g, cp) w1 := by
     refine ⟨hS1.1, ?_⟩
     rcases hS1.2 with ⟨e, _⟩ | ⟨g', cap', cur, e, h2, h3⟩
     ·cases e
     ·exact .inr ⟨g', cap', cur, e, by have := hL.z; omega, h3⟩
    refine ⟨g, cp, rfl, hE1.y, (yieldAny (n - 1) (hY pre (p, g, cp) w1 hj1 hPre)).mono ?_⟩
    rintro e W' (⟨rfl, hJ', hk⟩ | ⟨rfl, hJx'⟩)
    ·refine ⟨true, rfl, .inl ⟨[(p, g, cp)], v, rfl, by rw [hRd.rd_n]; simp, hJ', hE1.kc hk hSE, hL1.kc hk hSl hSB, ?_, Nat.le_trans hgW.size hk.size⟩⟩
     intro x hx
     rcases List.mem_append.1 hx with hx | hx
     ·obtain ⟨h1, h2, h3⟩ := hF x hx
      exact ⟨Nat.lt_of_lt_of_le h1 (Nat.le_trans hgW.size hk.size), h2, h3⟩
     ·obtain rfl : x = (p, g, cp) := by simpa using hx
      refine ⟨Nat.lt_of_lt_of_le hgl hk.size, ?_, fun e => ?_⟩
      ·have := hL.b
       have := hL.z
       show g ≠ bl
       omega
      ·obtain ⟨_, cs, hcs⟩ := hL.i.own_ge e
       have : g < W.heap.size := (Array.getElem?_eq_some_iff.1 hcs).1
       omega
    ·exact ⟨false, rfl, .inr ⟨[(p, g, cp)], rfl, by rw [hRd.rd_n]; simp, hJx'⟩⟩)
   clear hE hL hF hj hY ih hJ
   refine callsIn_of_wp Tryz.func180 rfl trivial ?_ rfl
   simp only [Tryz.ntmps180, List.size_toArray, List.length_cons, List.length_nil, Nat.reduceAdd, Nat.reduceSub, Array.replicate_succ, Array.replicate_zero, List.push_toArray, List.append_toArray, List.nil_append, List.cons_append]
   gi_wp2
   gi_region_with_o (first
    | (refine ⟨trivial, (fun h => nomatch h), ?_⟩; gi_at_call 82; refine HC.out.mono ?_; rintro e w1 ⟨v1, rfl, hS1, hg1⟩; obtain ⟨g, cp, rfl, hy1, fn, tmps, assign, body, hy, hR⟩ := HAft.out w1 v1 hS1 hg1)
    | (refine ⟨(fun h => nomatch h), ?_⟩; refine hR.mono ?_; rintro e W' ⟨b, rfl, hpost⟩))
   all_goals (gi_wp2; go_ret; exact hpost)
  ·have hil : i < s.size := by omega
   have hrd : rd i = rdP xs s ok rd i xs.length := hRd.rd_s i hil
   have hz0 : W.heap.size ≤ W.heap.size := Nat.le_refl _
   have hnl : ((i : Int) == (s.size : Int)) = false := by rw [beq_eq_false_iff_ne]; omega
   have hwc := hE.w
   have hcc := hE.c
   refine callsIn_of_wp Tryz.func180 rfl trivial ?_ rfl
   refine wpIn_wide.2 ?_
   simp only [Tryz.ntmps180, List.size_toArray, List.length_cons, List.length_nil, Nat.reduceAdd, Nat.reduceSub, Array.replicate_succ, Array.replicate_zero, List.push_toArray, List.append_toArray, List.nil_append, List.cons_append]
   have HE := hide hE
   have HL := hide hL
   have HF := hide hF
   have HJ := hide hj
   have HIH := hide ih
   clear hE hL hF hj ih
   go_wp2
   go_loopw [22] (fun kv wr => ∃ (k : Nat) (ys : List RdX) (v : Value), kv = .int .i64 (k : Int) ∧ k ≤ xs.length ∧ Hid (ys.map Prod.fst = (rdP xs s ok rd i k).map (p ++ ·)) ∧ Hid (J (pre ++ ys) wr) ∧ Hid (REnv l bw by_ bl Zc bo bk br s A xs cap ok wr) ∧ Hid (LSt wr bl B v p) ∧ Hid (Fr wr bl v (pre ++ ys)) ∧ Hid (W.heap.size ≤ wr.heap.size)) (fun kv _ => xs.length - (intOf kv).toNat)
   case atStart => exact ⟨0, [], v, rfl, Nat.zero_le _, hide (by simp [rdP]), hide (by rw [List.append_nil]; exact HJ.out), HE, HL, hide (by rw [List.append_nil]; exact HF.out), hide hz0⟩
   case round =>
    obtain ⟨k, ys, v, rfl, hk, HYs, HJ, HE, HL, HF, HZ⟩ := hrel
    by_cases hlt : k < xs.length
    ·have hk0 : (0 : Int) ≤ (k : Int) := by omega
     have hk1 : (k : Int) < (xs.length : Int) := by omega
     have hi0 : (0 : Int) ≤ (i : Int) := by omega
     have hi1 : (i : Int) ≤ (s.size : Int) := by omega
     obtain ⟨b, o, hAb, hbl, hcell⟩ := HE.out.row (by omega)
     have hxc := hcell k hlt
     have HG := hide (show xs.getD k ⟨#[]⟩ = xs[k] by simp [hlt])
     obtain ⟨x, hx⟩ : ∃ x, xs[k] = x := ⟨_, rfl⟩
     have HX0 := hide (show x.size ≠ 0 from hRd.ne x (by rw [← hx]; exact List.getElem_mem _))
     rw [hx] at hxc HG
     have hwc1 := HE.out.w
     have HP := hide (strings_HasPrefix (s.extract i s.size) x wr)
     clear hx hcell hbl
     subst hAb
     cases hp : pfB s i x with
     | false =>
      have HYs2 := hide (show ys.map Prod.fst = (rdP xs s ok rd i (k + 1)).map (p ++ ·) by
       rw [rdP_succ, rdStep, HG.out, hp]
       simpa using HYs.out)
      unfold pfB at hp
      rw [hp] at HP
      clear hp
      go_wp2_with fail
      (with_reducible refine HP.out.mono ?_)
      rintro e w' ⟨rfl, rfl⟩
      go_wp2
      go_roundw
      case rel => exact ⟨k + 1, ys, v, by go_num, hlt, HYs2, HJ, HE, HL, HF, HZ⟩
      case measure => simp [intOf]; omega
     | true =>
      have hpx := pfB_size hp hi
      obtain ⟨m, hm⟩ : ∃ m, i + x.size = m := ⟨_, rfl⟩
      have hoc := HE.out.o
      have hkm := HE.out.k m (by omega)
      have q1 : IntKind.i64.wrap ((i : Int) + (x.size : Int)) = (m : Int) := by rw [IntWalk.i64_in _ (by omega)]; omega
      have q2 : (0 : Int) ≤ (m : Int) := by omega
      have q3 : (m : Int) < (s.size : Int) + 1 := by omega
      cases hok : ok m with
      | false =>
       have HYs2 := hide (show ys.map Prod.fst = (rdP xs s ok rd i (k + 1)).map (p ++ ·) by
        rw [rdP_succ, rdStep, HG.out, hp, hm, hok]
        simpa using HYs.out)
       rw [hok] at hkm
       unfold pfB at hp
       rw [hp] at HP
       clear hp hok hm
       go_wp2_with fail
       (with_reducible refine HP.out.mono ?_)
       rintro e w' ⟨rfl, rfl⟩
       go_wp2
       go_roundw
       case rel => exact ⟨k + 1, ys, v, by go_num, hlt, HYs2, HJ, HE, HL, HF, HZ⟩
       case measure => simp [intOf]; omega
      | true =>
       have HR1 := hide (show rdP xs s ok rd i (k + 1) = rdP xs s ok rd i k ++ (rd m).map ((k : Int) :: ·) by
        rw [rdP_succ, rdStep, HG.out, hp, hm, hok]; simp)
       rw [hok] at hkm
       unfold pfB at hp
       rw [hp] at HP
       have hlc := HL.out.c
       have hfc := HL.out.f
       have hrc := HE.out.r
       have hmi : i < m := by have := HX0.out; omega
       have HNext := hide (fun (w1 : World) (v1 : Value) (hS1 : Ints w1 B v1 (p ++ [(k : Int)])) (hg1 : (wr.alloc (.cells #[.int .i64 (k : Int)] 3)).grownBy w1 v.ownBlock) (hv1 : v1.ownBlock = v.ownBlock ∨ v1.ownBlock = some (wr.alloc (.cells #[.int .i64 (k : Int)] 3)).heap.size) =>
        show (w1.cell? ⟨bl, 0, none⟩ = some v ∧ w1.frozen? ⟨bl, 0, none⟩ = false) ∧ REnv l bw by_ bl Zc bo bk br s (some ⟨b, o, none⟩) xs cap ok (w1.setCell ⟨bl, 0, none⟩ v1) ∧ LSt (w1.setCell ⟨bl, 0, none⟩ v1) bl B v1 (p ++ [(k : Int)]) ∧ Fr (w1.setCell ⟨bl, 0, none⟩ v1) bl v1 (pre ++ ys) ∧ J (pre ++ ys) (w1.setCell ⟨bl, 0, none⟩ v1) ∧ W.heap.size ≤ (w1.setCell ⟨bl, 0, none⟩ v1).heap.size from by
        have hA1 := World.grownBy_alloc wr (.cells #[.int .i64 (k : Int)] 3) v.ownBlock
        have hW1 : wr.grownBy w1 v.ownBlock := hA1.trans hg1
        have hob : ∀ q, q < B → some q ≠ v.ownBlock := fun q hq e => by have := (HL.out.i.own_ge e.symm).1; omega
        have hblb := HL.out.b
        have hc1 := hW1.cell hlc (hob bl hblb)
        have hf1 : w1.frozen? ⟨bl, 0, none⟩ = false := (World.frozen?_of_block (hW1.block bl (World.block_lt_of_cell? wr _ hlc) (hob bl hblb))).trans hfc
        have hg2 := grown_set w1 bl v1
        have hE1 := (HE.out.grown hW1 fun q hq => hob q (hEB q hq).1).grown hg2 fun q hq e => (hEB q hq).2 (by simpa using e)
        have hz2 : wr.heap.size ≤ (w1.setCell ⟨bl, 0, none⟩ v1).heap.size := Nat.le_trans hW1.size hg2.size
        have hne1 : v1.ownBlock ≠ some bl := fun e => by have := (hS1.own_ge e).1; omega
        refine ⟨⟨hc1, hf1⟩, hE1, ⟨World.cell?_setCell_same _ _ _ hc1, by rw [World.frozen?_setCell]; exact hf1, World.ownsRow.kept hS1 hg2 (.inr hne1), hblb, Nat.le_trans HL.out.z hz2⟩, fun y hy => ?_, ?_, Nat.le_trans HZ.out hz2⟩
        ·obtain ⟨h1, h2, h3⟩ := HF.out y hy
         refine ⟨Nat.lt_of_lt_of_le h1 hz2, h2, fun e => ?_⟩
         rcases hv1 with hv1 | hv1
         ·exact h3 (hv1 ▸ e)
         ·rw [hv1] at e
          simp at e
          omega
        ·refine hJ _ w1 _ (some bl) (hJ _ wr w1 v.ownBlock HJ.out hW1 fun r e => ?_) hg2 fun r e => ?_
         ·obtain ⟨h1, cs, h2⟩ := HL.out.i.own_ge e
          exact ⟨by omega, _, h2, .inr ⟨rfl, fun y hy e2 => (HF.out y hy).2.2 (by rw [e, ← e2]; rfl)⟩⟩
         ·cases e
          obtain ⟨o1, ho1, hc2⟩ := cells_of_cell hc1
          exact ⟨hB0, o1, ho1, .inr ⟨hc2, fun y hy => (HF.out y hy).2.1⟩⟩)
       have hbn : v.ownBlock = none ∨ True := .inr trivial
       have hown1 : Ints (wr.alloc (.cells #[.int .i64 (k : Int)] 3)) B v p := HL.out.i.alloc _
       have hnew : ∀ j (hj : j < [(k : Int)].length), (wr.alloc (.cells #[.int .i64 (k : Int)] 3)).cell? ⟨wr.heap.size, j, none⟩ = some (.int .i64 [(k : Int)][j]) := fun j hj => by
        have : j = 0 := by simpa using hj
        subst this
        exact cell_of_one (heap_at wr _ _ rfl)
       have hzB := HL.out.z
       have hpl : p.length ≤ 65536 := by omega
       clear hp hok hm hbn
       go_wp2_with fail
       (with_reducible refine HP.out.mono ?_)
       rintro e w' ⟨rfl, rfl⟩
       clear HP
       go_wp2_with (at_builtin; refine wpList_appI rfl _ _ rfl B v p rfl hown1 w'.heap.size 1 1 [(k : Int)] rfl rfl hnew (by omega) (by simp; omega) ?_; intro v1 w1 hS1 hg1 hv1; obtain ⟨⟨hc1, hf1⟩, hN⟩ := HNext.out w1 v1 hS1 hg1 hv1; obtain ⟨ad1, cp1, rfl⟩ := hS1.shape; simp only [List.length_append, List.length_cons, List.length_nil, Nat.zero_add] at hN; have HN := hide hN; have hr2 := hN.1.r; unfold rdFn at hr2; clear hN hS1 hg1 hv1)
       clear HNext
       (with_reducible refine (callsIn_wide.1 (HIH.out m (by omega) (by omega) (pre ++ ys) (p ++ [(k : Int)]) _ _ HN.out.1 HN.out.2.1 HN.out.2.2.1 HN.out.2.2.2.1 (by rw [List.length_append]; simp; omega) (.inr (by simp)) 0)).mono ?_)
       rintro e w3 (⟨ys2, v2, rfl, hys2, hJ2, hE2, hL2, hF2, hz2⟩ | ⟨ys2, rfl, hpre2, hJx2⟩)
       ·obtain ⟨g2, cp2, rfl, hbg2, hgl2⟩ := hL2.i.form (by simp)
        have hlc2 := hL2.c
        have hfc2 := hL2.f
        have hcut := hL2.i.cut
        have hcp2 : p.length + 1 ≤ cp2 := by
         rcases hL2.i.2 with ⟨e, _⟩ | ⟨g', cap', cur, e, h2, h3, h4, _⟩
         ·cases e
         ·simp only [Value.slice.injEq] at e
          rw [e.2.2]
          simpa using h4
        have hg4 := grown_set w3 bl (.slice (some ⟨g2, 0, none⟩) p.length cp2)
        have hE4 := hE2.grown hg4 fun q hq e => (hEB q hq).2 (by simpa using e)
        have hne4 : (Value.slice (some ⟨g2, 0, none⟩) p.length cp2).ownBlock ≠ some bl := fun e => by have := hL2.b; simp [Value.ownBlock] at e; omega
        have hL4 : LSt (w3.setCell ⟨bl, 0, none⟩ (.slice (some ⟨g2, 0, none⟩) p.length cp2)) bl B (.slice (some ⟨g2, 0, none⟩) p.length cp2) p :=
         ⟨World.cell?_setCell_same _ _ _ hlc2, by rw [World.frozen?_setCell]; exact hfc2, World.ownsRow.kept hcut hg4 (.inr hne4), hL2.b, Nat.le_trans hL2.z hg4.size⟩
        have hF4 : Fr (w3.setCell ⟨bl, 0, none⟩ (.slice (some ⟨g2, 0, none⟩) p.length cp2)) bl (.slice (some ⟨g2, 0, none⟩) p.length cp2) (pre ++ (ys ++ ys2)) := fun y hy => by
         rw [← List.append_assoc] at hy
         obtain ⟨h1, h2, h3⟩ := hF2 y hy
         exact ⟨Nat.lt_of_lt_of_le h1 hg4.size, h2, h3⟩
        have hJ4 : J (pre ++ (ys ++ ys2)) (w3.setCell ⟨bl, 0, none⟩ (.slice (some ⟨g2, 0, none⟩) p.length cp2)) := by
         rw [← List.append_assoc]
         refine hJ _ w3 _ (some bl) hJ2 hg4 fun r e => ?_
         cases e
         obtain ⟨o1, ho1, hc2⟩ := cells_of_cell hlc2
         exact ⟨hB0, o1, ho1, .inr ⟨hc2, fun y hy => (hF2 y hy).2.1⟩⟩
        have HYs4 := hide (show (ys ++ ys2).map Prod.fst = (rdP xs s ok rd i (k + 1)).map (p ++ ·) by
         rw [List.map_append, HYs.out, hys2, HR1.out, List.map_append, List.map_map]
         congr 1
         refine List.map_congr_left fun r _ => by simp)
        have HN4 := hide (And.intro hE4 (And.intro hL4 (And.intro hF4 (And.intro hJ4 (Nat.le_trans HN.out.2.2.2.2 (Nat.le_trans hz2 hg4.size))))))
        simp only [List.length_append, List.length_cons, List.length_nil, Nat.zero_add] at hlc2
        have q5 : IntKind.i64.wrap (((p.length : Int) + 1) - 1) = (p.length : Int) := by rw [IntWalk.i64_in _ (by omega)]; omega
        have q6 : (0 : Int) ≤ (p.length : Int) := by omega
        have q7 : (p.length : Int) ≤ (cp2 : Int) := by omega
        clear hE4 hL4 hF4 hJ4 hcut hE2 hL2 hF2 hJ2 hys2 hg4 HN hr2 hc1 hf1
        go_wp2
        go_roundw
        case rel => exact ⟨k + 1, ys ++ ys2, _, by go_num, hlt, HYs4, hide HN4.out.2.2.2.1, hide HN4.out.1, hide HN4.out.2.1, hide HN4.out.2.2.1, hide HN4.out.2.2.2.2⟩
        case measure => simp [intOf]; omega
       ·have HEnd := hide (show (ys ++ ys2).map Prod.fst <+: (rd i).map (p ++ ·) by
         rw [List.map_append, HYs.out, hrd]
         refine List.IsPrefix.trans ?_ (List.IsPrefix.map _ (rdP_pre xs s ok rd i (show k + 1 ≤ xs.length from hlt)))
         rw [HR1.out, List.map_append, List.prefix_append_right_inj]
         refine hpre2.trans ?_
         rw [List.map_map]
         have : (fun r : List Int => (p ++ [(k : Int)]) ++ r) = ((fun r => p ++ r) ∘ fun r => (k : Int) :: r) := by funext r; simp
         rw [this]
         exact List.prefix_refl _)
        rw [List.append_assoc] at hJx2
        clear hpre2
        go_wp2
        go_ret
        exact .inr ⟨ys ++ ys2, rfl, HEnd.out, hJx2⟩
    ·obtain rfl : k = xs.length := by omega
     go_wp2
     go_ret
     exact .inl ⟨ys, v, rfl, by rw [hrd]; exact HYs.out, HJ.out, HE.out, HL.out, HF.out, HZ.out⟩
end
end Go.Proofs.YtbnpjoiojhnimaaGreatDoor
