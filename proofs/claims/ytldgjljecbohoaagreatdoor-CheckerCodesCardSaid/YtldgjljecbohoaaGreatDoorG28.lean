import Derived.Test.YtldgjljecbohoaaGreatDoorG27
import Derived.Test.YtldgjljecbohoaaGreatDoorG15
import Derived.Test.YtldgjljecbohoaaGreatDoorG4
set_option linter.unusedSimpArgs false
/- decodable.residuals: its contract at any code of up to 64 words of up to 32 letters. -/
set_option linter.unusedVariables false
namespace Go.Proofs.YtldgjljecbohoaaGreatDoor
open Go.RowKit Go.Shelf Go.Maps
attribute [local go_sem] Oper.semAt_some
def addFn (cm co : Nat) : Value := .func (.func 101) #[] #[.pointer (some ⟨cm, 0, none⟩), .pointer (some ⟨co, 0, none⟩)]
theorem Strs.own_ge {w : World} {B g : Nat} {v : Value} {xs : List ByteArray} (h : Strs w B v xs) (hg : v.ownBlock = some g) : B ≤ g ∧ ∃ cs, w.heap[g]? = some (.cells cs 9 (0, 0)) := by
  rcases h.2 with ⟨rfl, _⟩ | ⟨g', cap, cur, rfl, hb, hh, _⟩
  · cases hg
  · obtain rfl : g' = g := by simpa [Value.ownBlock] using hg
    exact ⟨hb, _, hh⟩
theorem KX.ks {S : Nat → Prop} {mb co : Nat} {row : Option Nat} {w w' : World} (h : KX mb co row w w') (h1 : ¬ S mb) (h2 : ¬ S co) (h3 : ∀ g, row = some g → ¬ S g) : KS S w w' :=
  ⟨h.os, h.tape, h.output, h.size, fun k hk hs => h.block k hk (fun e => h1 (e ▸ hs)) (fun e => h2 (e ▸ hs)) (fun e => h3 k e.symm hs)⟩
/-- a step of the law's own book-keeping, or a new block -/
theorem RSt.own {mb cm co B N : Nat} {v : Value} {out : List ByteArray} {W W' : World} {row : Option Nat} (h : RSt W mb cm co B v out) (hN : B ≤ N) (hg : W.grownBy W' row) (hr : ∀ r, row = some r → N ≤ r ∧ ∃ o : Obj, W.heap[r]? = some o ∧ o.isCells = false) : RSt W' mb cm co B v out := by
  obtain ⟨D, hcm, hown, hBS, hco, hfz, hst, h1, h2, h3, h4⟩ := h
  have hne : ∀ k, k < B → some k ≠ row := fun k hk e => by have := (hr k e.symm).1; omega
  refine ⟨D, hg.cell hcm (hne _ (by show cm < B; omega)), hown.kept hg (hne _ (by omega)), hBS, hg.cell hco (hne _ h3), (World.frozen?_of_block (hg.block co (World.block_lt_of_cell? W _ hco) (hne _ h3))).trans hfz, hst.keptR hg ?_, h1, h2, h3, Nat.le_trans h4 hg.size⟩
  cases hv : v.ownBlock with
  | none => exact .inl rfl
  | some g =>
    refine .inr fun e => ?_
    obtain ⟨_, o, ho, hc⟩ := hr g e.symm
    obtain ⟨_, cs, hcs⟩ := hst.own_ge hv
    rw [hcs] at ho; cases ho; cases hc
def S1 (Z k : Nat) : Prop := k < Z + 6 ∧ k ≠ Z + 1 ∧ k ≠ Z + 1 + 1 + 1
/-- the world in which the first loop begins -/
def resW (q : Int) (A : Option Addr) (n c : Nat) (w : World) : World :=
  (((((w.alloc (.cells #[.int .i64 q, .slice A n c] 27)).alloc (.map #[] 0)).alloc (.cells #[.map (some (w.heap.size + 1))] 152)).alloc (.cells #[.slice none 0 0] 25)).alloc
    (.cells #[addFn (w.heap.size + 1 + 1) (w.heap.size + 1 + 1 + 1)] 153)).alloc (.cells #[.int .i64 q, .slice A n c] 27)
theorem heap_at (W : World) (o : Obj) (n : Nat) (hn : n = W.heap.size) : (W.alloc o).heap[n]? = some o := by subst hn; exact World.alloc_heap_new W o
structure ResW (Z : Nat) (q : Int) (A : Option Addr) (n c : Nat) (w W : World) : Prop where
  size : W.heap.size = Z + 6
  below : Below Z w W
  st : RSt W (Z + 1) (Z + 1 + 1) (Z + 1 + 1 + 1) (Z + 6) (.slice none 0 0) []
  c0 : W.heap[Z]? = some (.cells #[.int .i64 q, .slice A n c] 27 (0, 0))
  ca : W.cell? ⟨Z + 1 + 1 + 1 + 1, 0, none⟩ = some (addFn (Z + 1 + 1) (Z + 1 + 1 + 1))
  c5 : W.heap[Z + 5]? = some (.cells #[.int .i64 q, .slice A n c] 27 (0, 0))
theorem resW_facts (q : Int) (A : Option Addr) (n c : Nat) (w : World) : ResW w.heap.size q A n c w (resW q A n c w) := by
  have hz : (resW q A n c w).heap.size = w.heap.size + 6 := by unfold resW; simp
  unfold resW at hz ⊢
  have hB : Below w.heap.size w ((((((w.alloc (.cells #[.int .i64 q, .slice A n c] 27)).alloc (.map #[] 0)).alloc (.cells #[.map (some (w.heap.size + 1))] 152)).alloc (.cells #[.slice none 0 0] 25)).alloc
    (.cells #[addFn (w.heap.size + 1 + 1) (w.heap.size + 1 + 1 + 1)] 153)).alloc (.cells #[.int .i64 q, .slice A n c] 27)) :=
    (((((((Below.refl _ w).alloc (Nat.le_refl _) _).alloc (by simp) _).alloc (by simp; omega) _).alloc (by simp; omega) _).alloc (by simp; omega) _)).alloc (by simp; omega) _
  have lift : ∀ (W : World) (o : Obj) (k : Nat) (x : Obj), W.heap[k]? = some x → (W.alloc o).heap[k]? = some x := fun W o k x h => (Below.heap_alloc W o k (Array.getElem?_eq_some_iff.1 h).1).trans h
  have h2 : (resW q A n c w).heap[w.heap.size + 1 + 1]? = some (.cells #[.map (some (w.heap.size + 1))] 152 (0, 0)) := lift _ _ _ _ (lift _ _ _ _ (lift _ _ _ _ (heap_at _ _ _ (by simp))))
  have h3 : (resW q A n c w).heap[w.heap.size + 1 + 1 + 1]? = some (.cells #[.slice none 0 0] 25 (0, 0)) := lift _ _ _ _ (lift _ _ _ _ (heap_at _ _ _ (by simp)))
  have h4 : (resW q A n c w).heap[w.heap.size + 1 + 1 + 1 + 1]? = some (.cells #[addFn (w.heap.size + 1 + 1) (w.heap.size + 1 + 1 + 1)] 153 (0, 0)) := lift _ _ _ _ (heap_at _ _ _ (by simp))
  have hm := World.ownsMap_made (H := Unit) (w.alloc (.cells #[.int .i64 q, .slice A n c] 27)) Tryz.prog 9 (plainElem (H := Unit) Tryz.prog 4)
  rw [World.size_alloc] at hm
  refine ⟨hz, hB, ⟨.map [], cell_of_one h2, ((((hm.alloc _).alloc _).alloc _).alloc _), ⟨⟨[], rfl⟩, fun x => rfl⟩, cell_of_one h3, ?_, Strs.nil_ _ _, by omega, by omega, by omega, by omega⟩, ?_, cell_of_one h4, ?_⟩
  · show World.frozen? (resW q A n c w) _ = false
    simp [World.frozen?, show (resW q A n c w).heap[w.heap.size + 1 + 1 + 1]? = _ from h3]
  · exact lift _ _ _ _ (lift _ _ _ _ (lift _ _ _ _ (lift _ _ _ _ (lift _ _ _ _ (heap_at _ _ _ rfl)))))
  · exact heap_at _ _ _ (by simp)
theorem add_ks {mb cm co B : Nat} {v : Value} {out out' : List ByteArray} {w w' : World} {S : Nat → Prop} (h : RSt w mb cm co B v out) (ha : AddPost mb cm co B v out' w w') (h1 : ¬ S mb) (h2 : ¬ S co) (h3 : ∀ g, v.ownBlock = some g → ¬ S g) : KS S w w' := ha.2.ks h1 h2 h3
theorem RSt.own_ge {w : World} {mb cm co B g : Nat} {v : Value} {out : List ByteArray} (h : RSt w mb cm co B v out) (hg : v.ownBlock = some g) : B ≤ g ∧ ∃ cs, w.heap[g]? = some (.cells cs 9 (0, 0)) := by
  obtain ⟨D, hcm, hown, hBS, hco, hfz, hst, h1, h2, h3, h4⟩ := h
  exact hst.own_ge hg
def I1 (Z : Nat) (W6 : World) {xs : List ByteArray} (pre : List (FrsT xs)) (W : World) : Prop := (∃ v, RSt W (Z + 1) (Z + 1 + 1) (Z + 1 + 1 + 1) (Z + 6) v (addR [] (pre.map fun x => x.1.2))) ∧ KS (S1 Z) W6 W
theorem addPost_keeps {mb cm co B N : Nat} {v : Value} {out out' : List ByteArray} {w w' : World} (h : RSt w mb cm co B v out) (ha : AddPost mb cm co B v out' w w') (hN : B ≤ N) (h1 : mb < N) (h2 : co < N) : KeepsFrom N w w' :=
  ⟨ha.2.size, fun k o hk ho hc => (ha.2.block k (Array.getElem?_eq_some_iff.1 ho).1 (by omega) (by omega) (fun e => by
    obtain ⟨_, cs, hcs⟩ := h.own_ge e.symm
    rw [hcs] at ho; cases ho; cases hc)).trans ho⟩
theorem Marks.one {base D : Nat} {w : World} (h1 : base ≤ D) (h2 : w.heap[D]? = some (.deferred (some []))) : Marks base [mark D] w :=
  ⟨[D], rfl, by simp, fun E hE => by rw [List.mem_singleton.1 hE]; exact ⟨h1, h2⟩⟩
theorem frs_all {xs : List ByteArray} {ys : List (FrsT xs)} (h : ys.map Subtype.val = frs xs) : ys.map (fun x => x.1.2) = Sar.fstL (raws xs) := by
  have := congrArg (List.map Prod.snd) h
  rw [frs_rests, List.map_map] at this
  exact this
theorem nxs_all {xs : List ByteArray} {r : ByteArray} {ys : List (NxsT xs r)} (h : ys.map Subtype.val = nxs xs r) : ys.map (fun x => x.1.1) = Sar.nxtL (raws xs) r.data.toList := by
  have := congrArg (List.map Prod.fst) h
  rw [nxs_rests, List.map_map] at this
  exact this
theorem RSt.shape {w : World} {mb cm co B : Nat} {v : Value} {out : List ByteArray} (h : RSt w mb cm co B v out) : ∃ ad cap, v = .slice ad out.length cap := by
  obtain ⟨D, hcm, hown, hBS, hco, hfz, hst, h1, h2, h3, h4⟩ := h
  exact hst.shape
theorem RSt.co {w : World} {mb cm co B : Nat} {v : Value} {out : List ByteArray} (h : RSt w mb cm co B v out) : w.cell? ⟨co, 0, none⟩ = some v := by
  obtain ⟨D, hcm, hown, hBS, hco, hfz, hst, h1, h2, h3, h4⟩ := h
  exact hco
theorem RSt.strs {w : World} {mb cm co B : Nat} {v : Value} {out : List ByteArray} (h : RSt w mb cm co B v out) : Strs w B v out := by
  obtain ⟨D, hcm, hown, hBS, hco, hfz, hst, h1, h2, h3, h4⟩ := h
  exact hst
theorem RSt.row {w : World} {mb cm co B n cap : Nat} {ad : Option Addr} {out : List ByteArray} (h : RSt w mb cm co B (.slice ad n cap) out) (h0 : 0 < out.length) : ∃ g, ad = some ⟨g, 0, none⟩ ∧ B ≤ g ∧ g < w.heap.size ∧ ∀ k (hk : k < out.length), w.cell? ⟨g, k, none⟩ = some (.string out[k]) := by
  have hst := h.strs
  obtain ⟨g, cap', e, hb, hl⟩ := hst.form h0
  cases e
  exact ⟨g, rfl, hb, hl, fun k hk => hst.cell hk⟩
theorem cell_drew {W : World} {p : Addr} {v : Value} (h : W.cell? p = some v) : W.drew.cell? p = some v := h
theorem cell_aad {W : World} {a b : Obj} {p : Addr} {v : Value} (h : W.cell? p = some v) : ((W.alloc a).alloc b).drew.cell? p = some v := by
  have hl := World.block_lt_of_cell? W p h
  exact (World.cell?_alloc_lt _ _ _ (by simp; omega)).trans ((World.cell?_alloc_lt _ _ _ hl).trans h)
def S2 (Z N k : Nat) : Prop := S1 Z k ∨ k = N ∨ k = N + 1
structure NextW (Z N : Nat) (q : Int) (A : Option Addr) (n c : Nat) (x : ByteArray) (v : Value) (out : List ByteArray) (ds : List Deferred) (W6 W : World) : Prop where
  size : W.heap.size = N + 2
  base : Z + 6 ≤ N
  st : RSt W (Z + 1) (Z + 1 + 1) (Z + 1 + 1 + 1) (Z + 6) v out
  mrk : Marks (Z + 6) ds W
  ks : KS (S1 Z) W6 W
  c0 : W.heap[N]? = some (.cells #[.int .i64 q, .slice A n c] 27 (0, 0))
  c1 : W.heap[N + 1]? = some (.cells #[.string x] 9 (0, 0))
  own0 : v.ownBlock ≠ some N
  own1 : v.ownBlock ≠ some (N + 1)
theorem RSt.base {w : World} {mb cm co B : Nat} {v : Value} {out : List ByteArray} (h : RSt w mb cm co B v out) : B ≤ w.heap.size := by
  obtain ⟨D, hcm, hown, hBS, hco, hfz, hst, h1, h2, h3, h4⟩ := h
  exact h4
theorem nextW_facts (q : Int) (A : Option Addr) (n c : Nat) (x : ByteArray) (N Z : Nat) (wr W6 : World) (v : Value) (out : List ByteArray) (ds : List Deferred) (hN : wr.heap.size = N) (hst : RSt wr (Z + 1) (Z + 1 + 1) (Z + 1 + 1 + 1) (Z + 6) v out) (hM : Marks (Z + 6) ds wr) (hks : KS (S1 Z) W6 wr) :
    NextW Z N q A n c x v out ds W6 ((wr.alloc (Obj.cells #[Value.int IntKind.i64 q, Value.slice A n c] 27)).alloc (Obj.cells #[Value.string x] 9)).drew := by
  subst hN
  have hb := hst.base
  have lift : ∀ (W : World) (o : Obj) (k : Nat) (y : Obj), W.heap[k]? = some y → (W.alloc o).heap[k]? = some y := fun W o k y h => (Below.heap_alloc W o k (Array.getElem?_eq_some_iff.1 h).1).trans h
  have hg : ∀ (W : World) (o : Obj), W.grownBy (W.alloc o) none := fun W o => World.grownBy_alloc W o none
  have hn : ∀ (W : World) r, (none : Option Nat) = some r → Z + 6 ≤ r ∧ ∃ o : Obj, W.heap[r]? = some o ∧ o.isCells = false := fun W r e => by cases e
  refine ⟨by show (World.alloc _ _).heap.size = _; simp, hb, ?_, hM.kept fun D _ hD => lift _ _ _ _ (lift _ _ _ _ hD), ?_, ?_, ?_, ?_, ?_⟩
  · have := (hst.own (Nat.le_refl _) (hg _ (Obj.cells #[Value.int IntKind.i64 q, Value.slice A n c] 27)) (hn _)).own (Nat.le_refl _) (hg _ (Obj.cells #[Value.string x] 9)) (hn _)
    exact this
  · have := (hks.alloc (Obj.cells #[Value.int IntKind.i64 q, Value.slice A n c] 27)).alloc (Obj.cells #[Value.string x] 9)
    exact ⟨this.os, this.tape, this.output, this.size, this.block⟩
  · exact lift _ _ _ _ (heap_at _ _ _ rfl)
  · exact heap_at _ _ _ (by simp)
  · intro e
    obtain ⟨_, cs, hcs⟩ := hst.own_ge e
    have := (Array.getElem?_eq_some_iff.1 hcs).1
    omega
  · intro e
    obtain ⟨_, cs, hcs⟩ := hst.own_ge e
    have := (Array.getElem?_eq_some_iff.1 hcs).1
    omega
theorem ownFrom_marks {β : Type} {base B : Nat} {ds : List Deferred} {w0 : World} (h0 : Marks base ds w0) (hB : w0.heap.size ≤ B) : OwnFrom B (fun (_ : β) W => Marks base ds W) := by
  intro s W W' row hs hg hr
  obtain ⟨Ds, h1, h2, h3⟩ := hs
  obtain ⟨Es, e1, _, e3⟩ := h0
  obtain rfl : Ds = Es := (List.map_inj_right (fun a b e => by simpa [mark] using e)).1 (h1.symm.trans e1)
  refine ⟨Ds, h1, h2, fun D hD => ⟨(h3 D hD).1, ?_⟩⟩
  have hl := (Array.getElem?_eq_some_iff.1 (e3 D hD).2).1
  refine (hg.block D (Array.getElem?_eq_some_iff.1 (h3 D hD).2).1 fun e => ?_).trans (h3 D hD).2
  have := (hr D e.symm).1
  omega
def I2 (Z N : Nat) (out : List ByteArray) (ds : List Deferred) (Wn : World) {xs : List ByteArray} {x : ByteArray} (pre : List (NxsT xs x)) (W : World) : Prop :=
  (∃ v, RSt W (Z + 1) (Z + 1 + 1) (Z + 1 + 1 + 1) (Z + 6) v (addR out (pre.map fun x => x.1.1)) ∧ v.ownBlock ≠ some N ∧ v.ownBlock ≠ some (N + 1)) ∧ Marks (Z + 6) ds W ∧ KS (S2 Z N) Wn W
theorem I2.add {Z N : Nat} {out : List ByteArray} {ds : List Deferred} {Wn : World} {xs : List ByteArray} {x : ByteArray} {pre : List (NxsT xs x)} {y : NxsT xs x} {W W' : World} {v : Value} (hz : Wn.heap.size = N + 2) (hb : Z + 6 ≤ N)
    (hst : RSt W (Z + 1) (Z + 1 + 1) (Z + 1 + 1 + 1) (Z + 6) v (addR out (pre.map fun x => x.1.1))) (ho0 : v.ownBlock ≠ some N) (ho1 : v.ownBlock ≠ some (N + 1)) (hmk : Marks (Z + 6) ds W) (hks : KS (S2 Z N) Wn W)
    (ha : AddPost (Z + 1) (Z + 1 + 1) (Z + 1 + 1 + 1) (Z + 6) v (add1R (addR out (pre.map fun x => x.1.1)) (ofRaw y.1.1)) W W') : KeepsFrom Wn.heap.size W W' ∧ KS (S2 Z N) W W' ∧ I2 Z N out ds Wn (pre ++ [y]) W' := by
  have hk2 : KS (S2 Z N) W W' := add_ks hst ha
    (fun h => by rcases h with h | h | h; exact h.2.1 rfl; omega; omega)
    (fun h => by rcases h with h | h | h; exact h.2.2 rfl; omega; omega)
    (fun g hg h => by
      rcases h with h | h | h
      · have := (hst.own_ge hg).1
        have := h.1
        omega
      · exact ho0 (by rw [hg, h])
      · exact ho1 (by rw [hg, h]))
  have hsz := hks.size
  refine ⟨addPost_keeps hst ha (by omega) (by omega) (by omega), hk2, ?_, ?_, hks.trans hk2⟩
  · obtain ⟨⟨v', h', hv⟩, _⟩ := ha
    refine ⟨v', ?_, ?_, ?_⟩
    · rw [List.map_append, List.map_cons, List.map_nil, addR_snoc]
      exact h'
    · rcases hv with e | ⟨g, hg, e⟩
      · rw [e]; exact ho0
      · rw [e]; intro e2; cases e2; omega
    · rcases hv with e | ⟨g, hg, e⟩
      · rw [e]; exact ho1
      · rw [e]; intro e2; cases e2; omega
  · refine hmk.kept fun D hD hd => (ha.2.block D (Array.getElem?_eq_some_iff.1 hd).1 (by omega) (by omega) fun e => ?_).trans hd
    obtain ⟨_, cs, hcs⟩ := hst.own_ge e.symm
    rw [hcs] at hd
    cases hd
theorem rowTblk {w : World} {A : Option Addr} {xs : List ByteArray} (h : RowT w A xs) (h0 : 0 < xs.length) : ∃ a, A = some a ∧ a.block < w.heap.size := by
  obtain ⟨b, o, rfl, hb, _⟩ := h h0
  exact ⟨_, rfl, hb⟩
set_option maxRecDepth 100000 in
set_option maxHeartbeats 4000000 in
theorem residuals_any (q : Int) (A : Option Addr) (cap : Nat) (xs : List ByteArray) (w : World) (hR : RowT w A xs) (hn : xs.length ≤ 64) (hs : ∀ x ∈ xs, x.size ≤ 32) :
    Calls Tryz.prog 55 #[.agg #[.int .i64 q, .slice A xs.length cap]] w fun e w' => ∃ v out, e = .returned v ∧ Strs w' w.heap.size v out ∧ raws out = resS xs ∧ Below w.heap.size w w' := by
  refine (callsIn_wide (n := 3)).1 ?_
  have hmm := @run_makeMap Tryz.prog
  have hsf : ∀ (a : Addr) (m : Mode) (fn : Fn) (first cap : Array Value) (W : World), (store a (.func fn first cap) m).run Tryz.prog W = stored Tryz.prog W a (.func fn first cap) m := fun a m fn first cap W => run_store Tryz.prog W a _ m rfl
  obtain ⟨Z, hZ⟩ : ∃ Z, w.heap.size = Z := ⟨_, rfl⟩
  have HF := hide (fun W => callsIn_wide (n := 2).2 (firsts_in q A xs.length cap W))
  refine callsIn_of_wp_marks Tryz.func55 rfl trivial ?_ rfl
  simp only [Tryz.ntmps55, List.size_toArray, List.length_cons, List.length_nil, Nat.reduceAdd, Nat.reduceSub, Array.replicate_succ, Array.replicate_zero, List.push_toArray, List.append_toArray, List.nil_append, List.cons_append]
  have hW := resW_facts q A xs.length cap w
  rw [hZ] at hW
  gi_wp2_with fail
  refine ⟨trivial, ?_⟩
  (with_reducible refine (HF.out _).mono ?_)
  rintro e w6 ⟨rfl, rfl⟩
  have hsz : (((((w.alloc (Obj.cells #[Value.int IntKind.i64 q, Value.slice A xs.length cap] 27)).alloc (Obj.map #[] 0)).alloc (Obj.cells #[Value.map (some (Z + 1))] 152)).alloc (Obj.cells #[Value.slice none 0 0] 25)).alloc
    (Obj.cells #[addFn (Z + 1 + 1) (Z + 1 + 1 + 1)] 153)).heap.size = Z + 5 := by simp [hZ]
  unfold addFn at hsz
  rw [hsz]
  unfold resW addFn at hW
  rw [hZ] at hW
  generalize ((((((w.alloc (Obj.cells #[Value.int IntKind.i64 q, Value.slice A xs.length cap] 27)).alloc (Obj.map #[] 0)).alloc (Obj.cells #[Value.map (some (Z + 1))] 152)).alloc (Obj.cells #[Value.slice none 0 0] 25)).alloc
    (Obj.cells #[Value.func (Fn.func 101) #[] #[Value.pointer (some { block := Z + 1 + 1, off := 0 }), Value.pointer (some { block := Z + 1 + 1 + 1, off := 0 })]] 153)).alloc (Obj.cells #[Value.int IntKind.i64 q, Value.slice A xs.length cap] 27)) = W6 at hW ⊢
  clear hsz hmm hsf HF
  gi_wp2
  -- what the code's words are, in every world behind
  have HRow := hide (show ∀ W, KS (S1 Z) W6 W → RowT W A xs from fun W hW7 => by
    intro h0
    obtain ⟨b, o, hAb, hbl, hc⟩ := hR h0
    have hB : Below Z w W := hW.below.trans (hW7.mono (T := fun k => k < Z) (fun k hk => ⟨by omega, by omega, by omega⟩) |>.below (fun k hk => hk) (by have := hW.size; omega))
    rw [hZ] at hbl
    refine ⟨b, o, hAb, Nat.lt_of_lt_of_le (by omega) hB.size, fun k hk => ?_⟩
    exact (hB.cell (p := ⟨b, o + k, none⟩) hbl).trans (hc k hk))
  have hsz6 := hW.size
  have hS1 : ∀ k, W6.heap.size ≤ k → ¬ S1 Z k := fun k hk h => by have := h.1; omega
  have HW := hide hW
  have hst6 := hW.st
  have hca6 := hW.ca
  have hc5 := hW.c5
  clear hW
  refine wpIn_rangeFunc_ownH rfl (by omega) (gf := 178) (lb := #[.pointer (some ⟨Z + 5, 0, none⟩)]) rfl trivial (enters_of Tryz.func178 (by kernel_rfl) rfl)
    (firstsf_stops 2 (by omega) (Z + 5) cap xs A (by omega) (KS (S1 Z)) (KS.refl _) (fun h k => h.trans k) W6
      (fun W W' hW hK => ?k1))
    (fun h k => h.trans k) (ks_b hS1) (Below.refl _ _) (fun _ => rfl)
    (I1 Z W6)
    (fun _ _ _ => False)
    (OwnFrom.and (fun s X Y row hs hg hr => ?own1) (ownFrom_ks (fun k h1 _ => hS1 k h1) (Nat.le_refl _)))
    (fun _ _ _ _ _ hs _ _ => hs)
    ⟨⟨_, hst6⟩, KS.refl _ _⟩
    (fun x a' W => a' = { tmps := #[.agg #[.int .i64 q, .slice A xs.length cap], .pointer (some ⟨Z, 0, none⟩), .slice none 0 0, .pointer (some ⟨Z + 1 + 1, 0, none⟩), .pointer (some ⟨Z + 1 + 1 + 1, 0, none⟩), .pointer (some ⟨Z + 1 + 1 + 1 + 1, 0, none⟩), undef, .string ⟨x.1.2.toArray⟩, undef, undef, .map (some (Z + 1)), .func (.func 101) #[] #[.pointer (some ⟨Z + 1 + 1, 0, none⟩), .pointer (some ⟨Z + 1 + 1 + 1, 0, none⟩)], .agg #[.int .i64 q, .slice A xs.length cap], .func (.func 178) #[] #[.pointer (some ⟨Z + 5, 0, none⟩)], .string x.1.1, .string ⟨x.1.2.toArray⟩, undef, undef, undef, undef, undef, undef, undef, undef, undef, undef, undef, undef, undef, undef, undef, undef, undef, undef, undef, undef, undef, undef, undef, undef, undef, undef, undef, undef], defers := [] })
    ?hax ?assign ?body ?done ?stop
  case k1 =>
    have h1 : KS (S1 Z) W6 W' := (KS.of_below hW (fun k hk => by have := hk.1; omega)).trans hK
    refine ⟨HRow.out _ h1, ?_⟩
    exact h1.cell (p := ⟨Z + 5, 1, none⟩) (by rw [cell_of_row W6 _ _ _ _ _ hc5]; rfl) ⟨by show Z + 5 < _; omega, by show Z + 5 ≠ _; omega, by show Z + 5 ≠ _; omega⟩
  case own1 =>
    obtain ⟨v, h⟩ := hs
    exact ⟨v, h.own (by omega) hg hr⟩
  case hax =>
    intro x a' s X Y row hs hg hrow
    exact hs
  case assign =>
    rintro l pre x W K hI hK
    simp only [encF] at hK ⊢
    gi_wp2
    exact hK _ _ (KeepsFrom.refl _ _) (KS.refl _ _) hI rfl
  case body =>
    rintro l pre x a' W _ _ ⟨⟨v, hst⟩, hks⟩ rfl hlen
    have hca := hks.cell hca6 ⟨by show Z + 1 + 1 + 1 + 1 < _; omega, by show Z + 1 + 1 + 1 + 1 ≠ _; omega, by show Z + 1 + 1 + 1 + 1 ≠ _; omega⟩
    have hmem := frs_mem x.2
    have hfl := fstL_len (raws xs)
    rw [raws_len] at hfl
    have hal := addR_len [] (pre.map fun x => x.1.2)
    have hfr : (frs xs).length = (Sar.fstL (raws xs)).length := by rw [← frs_rests, List.length_map]
    have hmul : xs.length * xs.length ≤ 64 * 64 := Nat.mul_le_mul hn hn
    rw [List.length_map, List.length_nil] at hal
    have hxs : x.1.2.length ≤ 32 := sufs_size (W := raws xs) (n := 32) (fun y hy => by obtain ⟨z, hz, rfl⟩ := List.mem_map.1 hy; simpa using hs z hz) ((Sar.fstL_iff.1 hmem).suf)
    have HAdd := hide (rAdd_any (ofRaw x.1.2) (by rw [ofRaw_size]; omega) (Z + 1) (Z + 1 + 1) (Z + 1 + 1 + 1) (Z + 6) v _ W hst (by omega))
    unfold ofRaw at HAdd
    unfold addFn at hca
    have hI2 : ∀ W', AddPost (Z + 1) (Z + 1 + 1) (Z + 1 + 1 + 1) (Z + 6) v (add1R (addR [] (pre.map fun x => x.1.2)) (ofRaw x.1.2)) W W' → KeepsFrom W6.heap.size W W' ∧ KS (S1 Z) W W' ∧ I1 Z W6 (pre ++ [x]) W' := by
      intro W' ha
      have hk2 : KS (S1 Z) W W' := add_ks hst ha (fun h => h.2.1 rfl) (fun h => h.2.2 rfl) (fun g hg h => by have := (hst.own_ge hg).1; have := h.1; omega)
      refine ⟨addPost_keeps hst ha (by omega) (by omega) (by omega), hk2, ?_, hks.trans hk2⟩
      obtain ⟨⟨v', h', _⟩, _⟩ := ha
      refine ⟨v', ?_⟩
      rw [List.map_append, List.map_cons, List.map_nil, addR_snoc]
      exact h'
    have HI2 := hide hI2
    clear hst hks hmem hfl hal hfr hmul hI2
    gi_wp2_with fail
    refine ⟨trivial, ?_⟩
    (with_reducible refine (CallsIn.inRound l (callsIn_wide.2 HAdd.out)).mono ?_)
    rintro e w' ⟨rfl, ha⟩
    have HR2 := hide (HI2.out w' ha)
    clear ha HAdd HI2
    gi_wp2
    exact HR2.out
  case done =>
    rintro D ys W hD hys ⟨⟨v, hst⟩, hks⟩ hK
    have hM : Marks (Z + 6) [mark D] W := Marks.one (by omega) hK
    have hr0 : raws (addR [] (ys.map fun x => x.1.2)) = Sar.addL [] (Sar.fstL (raws xs)) := by rw [raws_addR, frs_all hys]; rfl
    obtain ⟨out, hout⟩ : ∃ out, addR [] (ys.map fun x => x.1.2) = out := ⟨_, rfl⟩
    rw [hout] at hst hr0
    have HG := hide (show Sar.Good (raws xs) (raws out) ∧ Sar.resF (raws xs) ((Sar.sufs (raws xs)).length + 1) 0 (raws out) = Sar.res (raws xs) from ⟨by rw [hr0]; exact Sar.Good.one _, by rw [hr0]; rfl⟩)
    clear hr0 hout hys hK hc5
    have hL := sufs_len (W := raws xs) (n := 32) (fun y hy => by obtain ⟨z, hz, rfl⟩ := List.mem_map.1 hy; simpa using hs z hz)
    rw [raws_len] at hL
    obtain ⟨L, hLe⟩ : ∃ L, (Sar.sufs (raws xs)).length = L := ⟨_, rfl⟩
    rw [hLe] at HG hL
    have HLe := hide hLe
    clear hLe
    gi_wp2
    refine wpIn_loop (fun a' W => ∃ u8 u19 u20 u21 u22 u23 u24 u25 u26 u27 u28 u29 u30 u31 u32 u33 u34 u35 ds, (∃ (i f : Nat) (v : Value) (out : List ByteArray), u8 = .int .i64 (i : Int) ∧ f + i = L + 1 ∧ i ≤ out.length ∧ RSt W (Z + 1) (Z + 1 + 1) (Z + 1 + 1 + 1) (Z + 6) v out ∧ Hid (Sar.Good (raws xs) (raws out) ∧ Sar.resF (raws xs) f i (raws out) = Sar.res (raws xs)) ∧ Marks (Z + 6) ds W ∧ KS (S1 Z) W6 W) ∧ a' = { tmps := #[.agg #[.int .i64 q, .slice A xs.length cap], .pointer (some ⟨Z, 0, none⟩), .slice none 0 0, .pointer (some ⟨Z + 1 + 1, 0, none⟩), .pointer (some ⟨Z + 1 + 1 + 1, 0, none⟩), .pointer (some ⟨Z + 1 + 1 + 1 + 1, 0, none⟩), undef, undef, u8, undef, .map (some (Z + 1)), .func (.func 101) #[] #[.pointer (some ⟨Z + 1 + 1, 0, none⟩), .pointer (some ⟨Z + 1 + 1 + 1, 0, none⟩)], .agg #[.int .i64 q, .slice A xs.length cap], .func (.func 178) #[] #[.pointer (some ⟨Z + 5, 0, none⟩)], undef, undef, undef, undef, undef, u19, u20, u21, u22, u23, u24, u25, u26, u27, u28, u29, u30, u31, u32, u33, u34, u35, undef, undef, undef, undef, undef, undef, undef, undef], defers := ds })
      (fun a' _ => L + 1 - (intOf (a'.tmps.getD 8 undef)).toNat) ?_ ?_
    · refine ⟨_, _, _, _, _, _, _, _, _, _, _, _, _, _, _, _, _, _, _, ⟨0, L + 1, v, out, rfl, rfl, Nat.zero_le _, hst, HG, hM, hks⟩, rfl⟩
    · rintro a' wr ⟨u8, u19, u20, u21, u22, u23, u24, u25, u26, u27, u28, u29, u30, u31, u32, u33, u34, u35, ds, ⟨i, f, v, out, rfl, hfi, hio, hst, HG, hM, hks⟩, rfl⟩
      dsimp only
      have hlo : out.length ≤ L := by have := HG.out.1.len; rw [raws_len, HLe.out] at this; exact this
      obtain ⟨ad, cp, rfl⟩ := hst.shape
      have hco := hst.co
      have HST := hide hst
      have HM := hide hM
      have HKS := hide hks
      clear hM hks
      by_cases hlt : i < out.length
      · have hi0 : (0 : Int) ≤ (i : Int) := by omega
        have hi1 : (i : Int) < (out.length : Int) := by omega
        obtain ⟨g, rfl, hbg, hgl, hcell⟩ := hst.row (by omega)
        have hce := hcell i hlt
        have HX := hide (show (raws out)[i]? = some out[i].data.toList by simp [raws, hlt])
        obtain ⟨x, hx⟩ : ∃ x, out[i] = x := ⟨_, rfl⟩
        rw [hx] at hce HX
        clear hx hcell hst
        by_cases he : x = ⟨#[]⟩
        · subst he
          have hem : ((⟨#[]⟩ : ByteArray).toList == (⟨#[]⟩ : ByteArray).toList) = true := by simp
          have HG2 := hide (show Sar.Good (raws xs) (raws out) ∧ Sar.resF (raws xs) (f - 1) (i + 1) (raws out) = Sar.res (raws xs) from ⟨HG.out.1, by
            have := HG.out.2
            rw [show f = (f - 1) + 1 by omega, Sar.resGo_step HX.out] at this
            exact this⟩)
          clear HG HX
          gi_wp2
          refine ⟨⟨_, _, _, _, _, _, _, _, _, _, _, _, _, _, _, _, _, _, _, ?rel, rfl⟩, ?measure⟩
          case rel => exact ⟨i + 1, f - 1, _, out, by go_num, by omega, hlt, HST.out, HG2, HM.out, HKS.out⟩
          case measure => simp [intOf]; omega
        · have hne : x.toList.isEmpty = false := by
            rw [ByteArray.toList_eq]
            cases x with | mk a => cases a with | mk l => cases l with
            | nil => exact absurd rfl he
            | cons _ _ => rfl
          have hd0 : wr.cell? ⟨Z, 0, none⟩ = some (.int .i64 q) := HKS.out.cell (p := ⟨Z, 0, none⟩) (by rw [cell_of_row W6 _ _ _ _ _ HW.out.c0]; rfl) ⟨by show Z < _; omega, by show Z ≠ _; omega, by show Z ≠ _; omega⟩
          have hd1 : wr.cell? ⟨Z, 1, none⟩ = some (.slice A xs.length cap) := HKS.out.cell (p := ⟨Z, 1, none⟩) (by rw [cell_of_row W6 _ _ _ _ _ HW.out.c0]; rfl) ⟨by show Z < _; omega, by show Z ≠ _; omega, by show Z ≠ _; omega⟩
          have HNx := hide (fun W => nexts_in q A xs.length cap x W)
          gi_wp2
          refine wpIn_wide.2 ?_
          go_region_held3 (fun W => W.cell? ⟨Z, 0, none⟩ = some (.int .i64 q) ∧ W.cell? ⟨Z, 1, none⟩ = some (.slice A xs.length cap) ∧ W.cell? ⟨Z + 1 + 1 + 1, 0, none⟩ = some (.slice (some ⟨g, 0, none⟩) out.length cp) ∧ W.cell? ⟨g, i, none⟩ = some (.string x))
            (first | with_reducible exact ⟨cell_drew hd0, cell_drew hd1, cell_drew hco, cell_drew hce⟩ | with_reducible exact ⟨cell_aad hd0, cell_aad hd1, cell_aad hco, cell_aad hce⟩)
            ((go_at_call 103; with_reducible refine (HNx.out _).mono ?_; rintro e w7 ⟨rfl, rfl⟩))
          obtain ⟨N, hN⟩ : ∃ N, wr.heap.size = N := ⟨_, rfl⟩
          have hNF := nextW_facts q A xs.length cap x N Z wr W6 _ out ds hN HST.out HM.out HKS.out
          rw [hN]
          generalize ((wr.alloc (Obj.cells #[Value.int IntKind.i64 q, Value.slice A xs.length cap] 27)).alloc (Obj.cells #[Value.string x] 9)).drew = Wn at hNF ⊢
          rw [hN] at hgl
          clear hd0 hd1 hco hce hN HNx hne
          gi_wp2
          have hcaN := hNF.ks.cell hca6 ⟨by show Z + 1 + 1 + 1 + 1 < _; omega, by show Z + 1 + 1 + 1 + 1 ≠ _; omega, by show Z + 1 + 1 + 1 + 1 ≠ _; omega⟩
          have hs2 : ∀ k, Wn.heap.size ≤ k → ¬ S2 Z N k := fun k hk h => by
            have := hNF.size
            have := hNF.base
            rcases h with h | h | h
            · have := h.1; omega
            · omega
            · omega
          refine wpIn_rangeFunc_ownH rfl (by omega) (gf := 180) (lb := #[.pointer (some ⟨N, 0, none⟩), .pointer (some ⟨N + 1, 0, none⟩)]) rfl trivial (enters_of Tryz.func180 (by kernel_rfl) rfl)
            (nextsf_stops 2 (by omega) N (N + 1) cap xs x A (by omega) (KS (S2 Z N)) (KS.refl _) (fun h k => h.trans k) Wn
              (fun W W' hW hK => ?k2))
            (fun h k => h.trans k) (ks_b hs2) (Below.refl _ _) (fun _ => rfl)
            (I2 Z N out ds Wn)
            (fun _ _ _ => False)
            (OwnFrom.and (fun s X Y row hs hg hr => ?own2) (OwnFrom.and (ownFrom_marks hNF.mrk (Nat.le_refl _)) (ownFrom_ks (fun k h1 _ => hs2 k h1) (Nat.le_refl _))))
            (fun _ _ _ _ _ hs _ _ => hs)
            ⟨⟨_, hNF.st, hNF.own0, hNF.own1⟩, hNF.mrk, KS.refl _ _⟩
            (fun y a' W => a' = { tmps := #[.agg #[.int .i64 q, .slice A xs.length cap], .pointer (some ⟨Z, 0, none⟩), .slice none 0 0, .pointer (some ⟨Z + 1 + 1, 0, none⟩), .pointer (some ⟨Z + 1 + 1 + 1, 0, none⟩), .pointer (some ⟨Z + 1 + 1 + 1 + 1, 0, none⟩), undef, undef, .int .i64 (i : Int), .string ⟨y.1.1.toArray⟩, .map (some (Z + 1)), .func (.func 101) #[] #[.pointer (some ⟨Z + 1 + 1, 0, none⟩), .pointer (some ⟨Z + 1 + 1 + 1, 0, none⟩)], .agg #[.int .i64 q, .slice A xs.length cap], .func (.func 178) #[] #[.pointer (some ⟨Z + 5, 0, none⟩)], undef, undef, undef, undef, undef, .int .i64 (i : Int), .slice (some ⟨g, 0, none⟩) out.length cp, .int .i64 (out.length : Int), .bool true, u23, u24, .slice (some ⟨g, 0, none⟩) out.length cp, .int .i64 (i : Int), .pointer (some ⟨g, i, none⟩), .string x, .bool false, .agg #[.int .i64 q, .slice A xs.length cap], .slice (some ⟨g, 0, none⟩) out.length cp, .int .i64 (i : Int), .pointer (some ⟨g, i, none⟩), .string x, .func (.func 180) #[] #[.pointer (some ⟨N, 0, none⟩), .pointer (some ⟨N + 1, 0, none⟩)], .string ⟨y.1.1.toArray⟩, .int .i64 (y.1.2 : Int), undef, undef, undef, undef, undef, undef], defers := [] })
            ?hax2 ?assign2 ?body2 ?done2 ?stop2
          case k2 =>
            have h1 : KS (S2 Z N) Wn W' := (KS.of_below hW (fun k hk => Nat.lt_of_not_le fun h => hs2 k h hk)).trans hK
            refine ⟨HRow.out _ (hNF.ks.trans (h1.mono fun k hk => .inl hk)), ?_, ?_⟩
            · exact h1.cell (p := ⟨N, 1, none⟩) (by rw [cell_of_row Wn _ _ _ _ _ hNF.c0]; rfl) (.inr (.inl rfl))
            · exact h1.cell (p := ⟨N + 1, 0, none⟩) (by rw [cell_of_row Wn _ _ _ _ _ hNF.c1]; rfl) (.inr (.inr rfl))
          case own2 =>
            obtain ⟨v, h, h1, h2⟩ := hs
            exact ⟨v, h.own (by have := hNF.size; have := hNF.base; omega) hg hr, h1, h2⟩
          case hax2 =>
            intro y a' s X Y row hs hg hrow
            exact hs
          case assign2 =>
            rintro l pre y W K hI hK
            simp only [encN] at hK ⊢
            gi_wp2
            exact hK _ _ (KeepsFrom.refl _ _) (KS.refl _ _) hI rfl
          case body2 =>
            rintro l pre y a' W _ _ ⟨⟨v, hst, ho0, ho1⟩, hmk, hks⟩ rfl hlen
            have hca := hks.cell hcaN (.inl ⟨by show Z + 1 + 1 + 1 + 1 < _; omega, by show Z + 1 + 1 + 1 + 1 ≠ _; omega, by show Z + 1 + 1 + 1 + 1 ≠ _; omega⟩)
            have hmem := nxs_mem y.2
            have hfl := nxtL_len (raws xs) x.data.toList
            rw [raws_len] at hfl
            have hal := addR_len out (pre.map fun x => x.1.1)
            have hfr : (nxs xs x).length = (Sar.nxtL (raws xs) x.data.toList).length := by rw [← nxs_rests, List.length_map]
            rw [List.length_map] at hal
            have hys : y.1.1.length ≤ 32 := sufs_size (W := raws xs) (n := 32) (fun y hy => by obtain ⟨z, hz, rfl⟩ := List.mem_map.1 hy; simpa using hs z hz)
              ((Sar.nxtL_iff.1 hmem).suf (HG.out.1.2 _ (List.mem_of_getElem? HX.out)))
            have HAdd := hide (rAdd_any (ofRaw y.1.1) (by rw [ofRaw_size]; omega) (Z + 1) (Z + 1 + 1) (Z + 1 + 1 + 1) (Z + 6) v _ W hst (by omega))
            unfold ofRaw at HAdd
            unfold addFn at hca
            have HI2 := hide (fun W' ha => I2.add (W' := W') (y := y) hNF.size hNF.base hst ho0 ho1 hmk hks ha)
            clear hst hks hmem hfl hal hfr ho0 ho1 hmk
            gi_wp2_with fail
            refine ⟨trivial, ?_⟩
            (with_reducible refine (CallsIn.inRound l (callsIn_wide.2 HAdd.out)).mono ?_)
            rintro e w' ⟨rfl, ha⟩
            have HR2 := hide (HI2.out w' ha)
            clear ha HAdd HI2
            gi_wp2
            exact HR2.out
          case done2 =>
            rintro D2 ys2 W2 hD2 hys2 ⟨⟨v2, hst2, _, _⟩, hM2, hks2⟩ hK2
            have HM2 := hide (Marks.cons hNF.mrk hM2 (by have := hNF.size; have := hNF.base; omega) hD2 hK2)
            have HKS2 := hide (hNF.ks.trans (hks2.mono fun k hk => .inl hk))
            have hrw : raws (addR out (ys2.map fun x => x.1.1)) = Sar.addL (raws out) (Sar.more (raws xs) x.data.toList) := by
              rw [raws_addR, nxs_all hys2, Sar.more, if_neg]
              intro e
              exact he (by cases x with | mk a => cases a; simp at e; simp [e])
            obtain ⟨out2, ho2⟩ : ∃ out2, addR out (ys2.map fun x => x.1.1) = out2 := ⟨_, rfl⟩
            rw [ho2] at hrw hst2
            have HST2 := hide hst2
            have hlen2 : i + 1 ≤ out2.length := by
              have := Sar.addL_len (Sar.more (raws xs) x.data.toList) (raws out)
              rw [← hrw, raws_len, raws_len] at this
              omega
            have HG2 := hide (show Sar.Good (raws xs) (raws out2) ∧ Sar.resF (raws xs) (f - 1) (i + 1) (raws out2) = Sar.res (raws xs) from ⟨by rw [hrw]; exact HG.out.1.more (List.mem_of_getElem? HX.out), by
              have := HG.out.2
              rw [show f = (f - 1) + 1 by omega, Sar.resGo_step HX.out] at this
              rw [hrw]
              exact this⟩)
            clear hst2 hM2 hks2 hK2 hrw ho2 hys2 HG HX HM HKS HST
            gi_wp2
            refine ⟨⟨_, _, _, _, _, _, _, _, _, _, _, _, _, _, _, _, _, _, _, ?rel2, rfl⟩, ?measure2⟩
            case rel2 => exact ⟨i + 1, f - 1, _, out2, by go_num, by omega, hlen2, HST2.out, HG2, HM2.out, HKS2.out⟩
            case measure2 => simp [intOf]; omega
          case stop2 =>
            rintro D c pre W _ _ h _
            exact h.elim
      · obtain rfl : i = out.length := by omega
        have hres : raws out = Sar.res (raws xs) := by
          have := HG.out.2
          rw [Sar.resGo_end (by rw [raws_len]; exact Nat.le_refl _)] at this
          exact this
        have HS := hide (sortS_any (Z + 6) _ out wr hst.strs (by omega))
        have hob : ∀ k, k < Z + 6 → some k ≠ (Value.slice ad out.length cp).ownBlock := fun k hk e => by
          have := (hst.own_ge e.symm).1
          omega
        have HEnd := hide (fun w8 (hg8 : wr.grownBy w8 (Value.slice ad out.length cp).ownBlock) => show Marks (Z + 6) ds w8 ∧ KS (S1 Z) W6 w8 ∧ w8.cell? ⟨Z + 1 + 1 + 1, 0, none⟩ = some (.slice ad out.length cp) from
          ⟨HM.out.kept fun D hD hd => (hg8.block D (Array.getElem?_eq_some_iff.1 hd).1 fun e => by
            obtain ⟨_, cs, hcs⟩ := hst.own_ge e.symm
            rw [hcs] at hd; cases hd).trans hd,
           HKS.out.grown hg8 (fun k e h => by have := h.1; exact hob k this e.symm),
           hg8.cell hco (hob _ (by show Z + 1 + 1 + 1 < _; omega))⟩)
        have HRes := hide (show raws (((raws out).mergeSort leW).map ofRaw) = resS xs by
          rw [hres]
          unfold raws resS
          rw [List.map_map]
          exact (List.map_congr_left fun x _ => raw_of x).trans (List.map_id _))
        clear hres hob hst HG HKS HM HST
        gi_wp2_with fail
        refine ⟨trivial, ?_⟩
        (with_reducible refine (callsIn_wide.2 HS.out).mono ?_)
        rintro e w8 ⟨rfl, hS8, hg8⟩
        obtain ⟨hm8, hk8, hco8⟩ := HEnd.out w8 hg8
        have HM8 := hide hm8
        have HK8 := hide hk8
        have HS8 := hide hS8
        clear hS8 hm8 hk8 hg8 HS HEnd hco
        gi_wp2
        refine leaves_marks (base := Z + 6) HM8.out fun w9 hSh => ⟨_, results_tmp rfl _ _ _, _, _, rfl, ?_, HRes.out, ?_⟩
        · have := hSh.ownsRow HS8.out
          rw [hZ]
          refine ⟨this.1, ?_⟩
          rcases this.2 with h' | ⟨g, cap, cur, h1, h2, h3⟩
          · exact .inl h'
          · exact .inr ⟨g, cap, cur, h1, by omega, h3⟩
        · have h1 := HW.out.below
          have h2 := HK8.out.below (B := Z) (a := W6)
          rw [hZ]
          exact hSh.below (h1.trans ((HK8.out.mono (T := fun k => k < Z) (fun k hk => ⟨by omega, by omega, by omega⟩)).below (fun k hk => hk) (by omega))) (by omega)
  case stop =>
    rintro D c pre W _ _ h _
    exact h.elim
end Go.Proofs.YtldgjljecbohoaaGreatDoor

/- slices.Index and Contains of strings at any list. -/
set_option linter.unusedVariables false
namespace Go.Proofs.YtldgjljecbohoaaGreatDoor
open Go.RowKit
def RowS (w : World) (A : Option Addr) (xs : List ByteArray) : Prop := 0 < xs.length → ∃ a, A = some a ∧ a.block < w.heap.size ∧ ∀ k (hk : k < xs.length), w.cell? (a.add k) = some (.string xs[k])
def hasB (x : ByteArray) (xs : List ByteArray) : Bool := (xs.map fun y => y.data.toList).contains x.data.toList
theorem hasB_iff {x : ByteArray} {xs : List ByteArray} : hasB x xs = true ↔ x ∈ xs := by
  unfold hasB
  rw [List.contains_iff_mem, List.mem_map]
  constructor
  · rintro ⟨y, h, e⟩
    rw [← ByteArray.ext (Array.toList_inj.1 e)]; exact h
  · intro h; exact ⟨x, h, rfl⟩
theorem hasB_no {x : ByteArray} {xs : List ByteArray} (h : ¬ x ∈ xs) : hasB x xs = false := by
  rw [← Bool.not_eq_true, hasB_iff]; exact h
theorem strs_row {w : World} {B : Nat} {v : Value} {xs : List ByteArray} (h : Strs w B v xs) : ∃ A c, v = .slice A xs.length c ∧ RowS w A xs := by
  obtain ⟨A, c, rfl⟩ := h.shape
  refine ⟨A, c, rfl, fun hp => ?_⟩
  obtain ⟨g, cap, hv, hb, hg⟩ := h.form hp
  simp only [Value.slice.injEq] at hv
  obtain ⟨rfl, _, rfl⟩ := hv
  exact ⟨⟨g, 0, none⟩, rfl, hg, fun k hk => by rw [show (⟨g, 0, none⟩ : Addr).add k = ⟨g, k, none⟩ by simp [Addr.add]; omega]; exact h.cell hk⟩
theorem RowS.drewN {w : World} {A : Option Addr} {xs : List ByteArray} (h : RowS w A xs) (q : Nat) : RowS (w.drewN q) A xs := h
theorem ne_list {x a : ByteArray} (he : a ≠ x) : (x.toList == a.toList) = false := by
  rw [beq_eq_false_iff_ne]
  intro e
  rw [ByteArray.toList_eq, ByteArray.toList_eq] at e
  exact he (ByteArray.ext (Array.toList_inj.1 e.symm))
set_option maxRecDepth 100000 in
set_option maxHeartbeats 1000000 in
theorem idx_any (xs : List ByteArray) (x : ByteArray) (A : Option Addr) (c : Nat) (w : World) (hR : RowS w A xs) (hb : xs.length ≤ 4294967296) :
    Calls Tryz.prog 100 #[.slice A xs.length c, .string x] w fun e w' => (∃ z : Int, e = .returned (.int .i64 z) ∧ decide (0 ≤ z) = hasB x xs) ∧ ∃ q, w' = w.drewN q := by
  have HR := hide hR
  clear hR
  go_enter Tryz.func100, Tryz.ntmps100
  go_wp2
  go_loopw [8] (fun i wr => ∃ k q : Nat, k ≤ xs.length ∧ i = .int .i64 k ∧ Hid (∀ j (hj : j < xs.length), j < k → xs[j] ≠ x) ∧ wr = w.drewN q) (fun i _ => xs.length - (intOf i).toNat)
  case atStart => exact ⟨0, 0, Nat.zero_le _, rfl, hide fun j _ h => absurd h (by omega), rfl⟩
  case round =>
    obtain ⟨k, q, hk, rfl, hs, rfl⟩ := hrel
    by_cases hlt : k < xs.length
    · obtain ⟨a0, rfl, hab, hcell⟩ := (HR.out.drewN q) (by omega)
      have c1 := hcell k hlt
      obtain ⟨a, ha⟩ : ∃ a, a = xs[k] := ⟨_, rfl⟩
      rw [← ha] at c1
      have HA := hide ha
      clear ha hcell
      have hk0 : (0 : Int) ≤ (k : Int) := by omega
      have hk1 : (k : Int) < (xs.length : Int) := by omega
      by_cases he : a = x
      · have HM := hide (show x ∈ xs by rw [← he, HA.out]; exact List.getElem_mem _)
        subst he
        have hself : (a.toList == a.toList) = true := by simp
        go_wp2
        go_ret
        exact ⟨⟨k, rfl, by rw [hasB_iff.2 HM.out, decide_eq_true (by omega)]⟩, q, rfl⟩
      · have hne := ne_list he
        have HE := hide he
        clear he
        go_wp2
        go_roundw
        case rel =>
          refine ⟨k + 1, q, by omega, by go_num, hide fun j hj hjk => ?_, rfl⟩
          by_cases e : j < k
          · exact hs.out j hj e
          · obtain rfl : j = k := by omega
            rw [← HA.out]; exact HE.out
        case measure => simp [intOf]; omega
    · obtain rfl : k = xs.length := by omega
      go_wp2
      go_ret
      refine ⟨⟨-1, rfl, ?_⟩, q, rfl⟩
      have : ¬ x ∈ xs := fun h => by
        obtain ⟨j, hj, e⟩ := List.getElem_of_mem h
        exact hs.out j hj hj e
      rw [hasB_no this]; rfl
set_option maxRecDepth 100000 in
set_option maxHeartbeats 400000 in
theorem con_any (xs : List ByteArray) (x : ByteArray) (A : Option Addr) (c : Nat) (w : World) (hR : RowS w A xs) (hb : xs.length ≤ 4294967296) :
    Calls Tryz.prog 54 #[.slice A xs.length c, .string x] w fun e w' => e = .returned (.bool (hasB x xs)) ∧ ∃ q, w' = w.drewN q := by
  have HI := hide (idx_any xs x A c w hR hb)
  clear hR
  go_enter Tryz.func54, Tryz.ntmps54
  go_wp2_with fail
  refine HI.out.mono ?_
  rintro e w1 ⟨⟨z, rfl, hz⟩, q, rfl⟩
  have HZ := hide hz
  clear hz
  go_wp2
  go_ret
  exact ⟨by rw [← HZ.out]; rfl, q, rfl⟩
end Go.Proofs.YtldgjljecbohoaaGreatDoor

/- decodable.decodable and Decodable: their contracts. -/
set_option linter.unusedVariables false
namespace Go.Proofs.YtldgjljecbohoaaGreatDoor
open Go.RowKit
/-- no dangling rest is empty -/
def decV (xs : List ByteArray) : Bool := !decide ([] ∈ Sar.res (raws xs))
theorem hasB_empty {xs out : List ByteArray} (h : raws out = resS xs) : hasB ⟨#[]⟩ out = decide ([] ∈ Sar.res (raws xs)) := by
  have e : hasB ⟨#[]⟩ out = decide ([] ∈ raws out) := by
    unfold hasB raws
    rw [List.contains_eq_mem]
  rw [e, h]
  exact decide_eq_decide.2 mem_resS
set_option maxRecDepth 100000 in
set_option maxHeartbeats 1000000 in
theorem decodable_any (q : Int) (A : Option Addr) (cap : Nat) (xs : List ByteArray) (w : World) (hR : RowT w A xs) (hn : xs.length ≤ 64) (hs : ∀ x ∈ xs, x.size ≤ 32) :
    Calls Tryz.prog 18 #[.agg #[.int .i64 q, .slice A xs.length cap]] w fun e w' => e = .returned (.bool (decV xs)) ∧ Below w.heap.size w w' := by
  have hB0 : Below w.heap.size w (w.alloc (Obj.cells #[.int .i64 q, .slice A xs.length cap] 27)) := (Below.refl _ w).alloc (Nat.le_refl _) _
  have HRes := hide (residuals_any q A cap xs _ (hR.below hB0) hn hs)
  clear hR
  go_enter Tryz.func18, Tryz.ntmps18
  go_wp2_with fail
  (with_reducible refine HRes.out.mono ?_)
  rintro e w1 ⟨v, out, rfl, hst, hr, hB1⟩
  have hB := hB0.trans (hB1.mono hB0.size)
  obtain ⟨A2, c2, rfl, hRS⟩ := strs_row hst
  have HCon := hide (con_any out ⟨#[]⟩ A2 c2 w1 hRS (by
    have h1 : out.length = (raws out).length := (raws_len out).symm
    have h2 := (Sar.resGo_closed ((Sar.sufs (raws xs)).length + 1) 0 (Sar.addL [] (Sar.fstL (raws xs))) rfl (Nat.zero_le _) (Sar.Good.one _) (fun j r h => by omega)).2.1.len
    have h3 := sufs_len (W := raws xs) (n := 32) (fun y hy => by obtain ⟨z, hz, rfl⟩ := List.mem_map.1 hy; simpa using hs z hz)
    rw [raws_len] at h3
    have h4 : (resS xs).length = (Sar.res (raws xs)).length := List.length_mergeSort ..
    have h5 : (Sar.res (raws xs)).length ≤ (Sar.sufs (raws xs)).length := h2
    rw [h1, hr, h4]
    omega))
  rw [hasB_empty hr] at HCon
  have HB := hide hB
  have HV := hide (show decV xs = !decide ([] ∈ Sar.res (raws xs)) from rfl)
  obtain ⟨R, hRR⟩ : ∃ R, decide ([] ∈ Sar.res (raws xs)) = R := ⟨_, rfl⟩
  rw [hRR] at HCon HV
  clear hRS hst hr hB1 hB hB0 HRes hRR
  go_wp2_with fail
  (with_reducible refine HCon.out.mono ?_)
  rintro e w2 ⟨rfl, n, rfl⟩
  have HB2 := hide (belowN HB.out n)
  clear HCon HB
  go_wp2
  go_ret
  exact ⟨by rw [HV.out]; rfl, HB2.out⟩
set_option maxRecDepth 100000 in
set_option maxHeartbeats 1000000 in
theorem Decodable_any (q : Int) (A : Option Addr) (cap : Nat) (xs : List ByteArray) (w : World) (hR : RowT w A xs) (hc : xs.length ≤ cap) (hcm : cap ≤ 9223372036854775807) :
    Calls Tryz.prog 7 #[.agg #[.int .i64 q, .slice A xs.length cap]] w fun e w' => e = .returned (.tuple (if cdk q xs = 0 then #[.bool (decV xs), .int .i64 0] else #[.bool false, .int .i64 1])) ∧ Below w.heap.size w w' := by
  have hB0 : Below w.heap.size w (w.alloc (Obj.cells #[.int .i64 q, .slice A xs.length cap] 27)) := (Below.refl _ w).alloc (Nat.le_refl _) _
  have HChk := hide (ccheck_any q xs A cap _ (hR.below hB0) hc hcm)
  obtain ⟨Z, hZ⟩ : ∃ Z, w.heap.size = Z := ⟨_, rfl⟩
  have hg0 := heap_alloc_new w (Obj.cells #[.int .i64 q, .slice A xs.length cap] 27)
  have hsz : (w.alloc (Obj.cells #[.int .i64 q, .slice A xs.length cap] 27)).heap.size = Z + 1 := by simp [hZ]
  have HRB := hide (hR.below hB0)
  rw [hZ] at hg0 hB0 ⊢
  by_cases h0 : cdk q xs = 0
  · have hcod := cdk_zero h0
    rw [if_pos h0]
    rw [h0] at HChk
    have HD := hide (fun W (hW : RowT W A xs) => decodable_any q A cap xs W hW hcod.few (fun x hx => (hcod.word x hx).2.1))
    clear hcod h0 hR
    go_enter Tryz.func7, Tryz.ntmps7
    go_wp2_with fail
    generalize w.alloc (Obj.cells #[.int .i64 q, .slice A xs.length cap] 27) = W1 at hB0 hg0 hsz HChk HRB ⊢
    (with_reducible refine HChk.out.mono ?_)
    rintro e w1 ⟨rfl, hB1⟩
    have hg1 := (hB1.block Z (by omega)).trans hg0
    have k0 : w1.cell? ⟨Z, 0, none⟩ = some (.int .i64 q) := by rw [cell_of_row w1 _ _ _ _ _ hg1]; rfl
    have k1 : w1.cell? ⟨Z, 1, none⟩ = some (.slice A xs.length cap) := by rw [cell_of_row w1 _ _ _ _ _ hg1]; rfl
    have HDD := hide (HD.out w1 (HRB.out.below hB1))
    have HB := hide (hB0.trans (hB1.mono (by omega)))
    have hz1 := hB1.size
    clear hg1 hB1 hg0 hB0 HChk HD HRB
    go_wp2_with fail
    (with_reducible refine HDD.out.mono ?_)
    rintro e w2 ⟨rfl, hB2⟩
    have HB2 := hide (HB.out.trans (hB2.mono (by omega)))
    clear hB2 HB HDD
    go_wp2
    go_ret2
    exact ⟨rfl, HB2.out⟩
  · rw [if_neg h0]
    have hne : (cdk q xs != 0) = true := by simpa using h0
    obtain ⟨R, hRR⟩ : ∃ R, cdk q xs = R := ⟨_, rfl⟩
    rw [hRR] at HChk hne
    clear hRR h0 hR
    go_enter Tryz.func7, Tryz.ntmps7
    go_wp2_with fail
    (with_reducible refine HChk.out.mono ?_)
    rintro e w1 ⟨rfl, hB1⟩
    have HB2 := hide (hB0.trans (hB1.mono (by omega)))
    clear hB1 hB0
    go_wp2
    go_ret2
    exact ⟨rfl, HB2.out⟩
end Go.Proofs.YtldgjljecbohoaaGreatDoor
