import Derived.Test.YtldgjljecbohoaaGreatDoorG25
import Derived.Test.YtldgjljecbohoaaGreatDoorStf
import Derived.Sort.OwnSorted
import Derived.Test.YtldgjljecbohoaaGreatDoorG14
set_option linter.unusedSimpArgs false
/- slices.SortFunc(out, order) at a row of strings that the call owns. -/
set_option linter.unusedVariables false
namespace Go.Proofs.YtldgjljecbohoaaGreatDoor
open Go.RowKit Go.Sort Go.Shelf
theorem ltOf_cmpW (x y : List UInt8) : ltOf cmpW x y = decide (cmpW x y < 0) := rfl
theorem compareBytes_ntrans {a b c : List UInt8} (h1 : ¬ Lib.compareBytes a b < 0) (h2 : ¬ Lib.compareBytes b c < 0) : ¬ Lib.compareBytes a c < 0 := by
  intro h
  have e1 : Lib.compareBytes b a < 0 ∨ a = b := by
    by_cases hh : Lib.compareBytes b a < 0
    · exact .inl hh
    · exact .inr (compareBytes_zero h1 hh)
  rcases e1 with e1 | rfl
  · exact h2 (compareBytes_trans b a c e1 h)
  · exact h2 h
theorem swoW : SWO (ltOf cmpW) where
  irrefl x := by rw [ltOf_cmpW]; exact decide_eq_false (cmpW_irrefl x)
  trans x y z h1 h2 := by rw [ltOf_cmpW] at *; exact decide_eq_true (cmpW_trans (of_decide_eq_true h1) (of_decide_eq_true h2))
  ntrans x y z h1 h2 := by
    rw [ltOf_cmpW] at *
    have h1 := of_decide_eq_false h1
    have h2 := of_decide_eq_false h2
    refine decide_eq_false fun h => ?_
    have e1 : cmpW y x < 0 ∨ x = y := by
      by_cases hh : cmpW y x < 0
      · exact .inl hh
      · exact .inr (cmpW_zero h1 hh)
    rcases e1 with e1 | rfl
    · exact h2 (cmpW_trans e1 h)
    · exact h2 h
theorem cmpLaysW (blk off size : Nat) (w : World) : CmpLays1 Tryz.prog 105 #[] encStr cmpW blk off size w := by
  intro m os dk hs x y
  refine (dcorder_any ⟨x.toArray⟩ ⟨y.toArray⟩ _).mono ?_
  rintro e w' ⟨rfl, rfl⟩
  exact ⟨rfl, 0, #[_], rfl⟩
theorem sortS_any (B : Nat) (v : Value) (zs : List ByteArray) (w : World) (h : Strs w B v zs) (hb : zs.length ≤ 1000000) :
    Calls Tryz.prog 104 #[v, .func (.func 105) #[] #[]] w fun e w' => e = .returned (.tuple #[]) ∧ Strs w' B v (((raws zs).mergeSort leW).map ofRaw) ∧ w.grownBy w' v.ownBlock := by
  have hm : (raws zs).map encStr = zs.map Value.string := by
    unfold raws
    rw [List.map_map]
    refine List.map_congr_left fun x _ => ?_
    show Value.string (ofRaw x.data.toList) = _
    rw [of_raw]
  rcases h.2 with ⟨rfl, h0⟩ | ⟨g, cap, cur, rfl, hbg, hg, hn, hmx, hs, ht⟩
  · have hx : zs = [] := List.eq_nil_of_length_eq_zero h0
    subst hx
    refine (Tryz.slices_SortFunc_strs_none none 0 _ w).mono ?_
    rintro e w' ⟨rfl, rfl⟩
    exact ⟨rfl, by simpa [raws] using h, World.grownBy.refl _ _⟩
  · have hl : (raws zs).length = zs.length := raws_len zs
    have hH : Holds encStr w g 0 (raws zs).toArray := holds_of_block hg (by rw [hm, hl]; simpa using ht)
    have hc := Tryz.slices_SortFunc_strs cmpW swoW 105 #[] g 0 cap (raws zs).toArray w (enters_of Tryz.func105 (by kernel_rfl) rfl) (cmpLaysW _ _ _ _) hH (Array.getElem?_eq_some_iff.1 hg).1 (by simp [raws_len]; omega)
      (fun x y h1 h2 => cmpW_zero (of_decide_eq_false h1) (of_decide_eq_false h2))
    rw [List.size_toArray, hl] at hc
    refine hc.mono ?_
    rintro e w' ⟨rfl, n, os, rfl⟩
    have hl2 : ((raws zs).mergeSort leW).length = (raws zs).length := List.length_mergeSort ..
    refine ⟨rfl, ?_, grownBy_sorted _⟩
    have := ownsRow_sorted (n := n) (os := os) (ts := (raws zs).mergeSort leW) (ss := raws zs) hl2 hbg hg (by rw [hl]; exact hn) hmx hs
    unfold Strs
    rw [List.length_map, hl2, hl, List.map_map]
    rw [hl] at this
    exact this
end Go.Proofs.YtldgjljecbohoaaGreatDoor

/- Loops in which a range over a function stands: each of its runs leaves a mark among the frame's deferred calls; the marks' laws. 'KS': what a world keeps of another. No function in sight. -/
set_option linter.unusedVariables false
namespace Go.Proofs.YtldgjljecbohoaaGreatDoor
open Go.RowKit Go.Shelf
def mark (D : Nat) : Deferred := { target := .collected D, args := #[] }
/-- the deferred calls are marks of blocks from 'base' on, none of which has been shut -/
def Marks (base : Nat) (ds : List Deferred) (w : World) : Prop := ∃ Ds : List Nat, ds = Ds.map mark ∧ Ds.Nodup ∧ ∀ D ∈ Ds, base ≤ D ∧ w.heap[D]? = some (.deferred (some []))
theorem Marks.nil (base : Nat) (w : World) : Marks base [] w := ⟨[], rfl, List.nodup_nil, fun _ h => nomatch h⟩
theorem Marks.kept {base : Nat} {ds : List Deferred} {w w' : World} (h : Marks base ds w) (hk : ∀ D, base ≤ D → w.heap[D]? = some (.deferred (some [])) → w'.heap[D]? = some (.deferred (some []))) : Marks base ds w' := by
  obtain ⟨Ds, h1, h2, h3⟩ := h
  exact ⟨Ds, h1, h2, fun D hD => ⟨(h3 D hD).1, hk D (h3 D hD).1 (h3 D hD).2⟩⟩
/-- one more mark, of a block that was made when all others were there -/
theorem Marks.cons {base : Nat} {ds : List Deferred} {w0 w : World} {D : Nat} (h0 : Marks base ds w0) (h : Marks base ds w) (hb : base ≤ w0.heap.size) (hD : w0.heap.size ≤ D) (hd : w.heap[D]? = some (.deferred (some []))) : Marks base (mark D :: ds) w := by
  obtain ⟨Ds, h1, h2, h3⟩ := h
  obtain ⟨Es, e1, _, e3⟩ := h0
  have hin : ∀ (x y : List Nat), x.map mark = y.map mark → x = y := fun x y => List.map_inj_right (fun a b e => by simpa [mark] using e) |>.1
  obtain rfl : Ds = Es := hin _ _ (h1.symm.trans e1)
  refine ⟨D :: Ds, by rw [h1]; rfl, List.nodup_cons.2 ⟨fun hm => ?_, h2⟩, fun E hE => ?_⟩
  · have := (Array.getElem?_eq_some_iff.1 (e3 D hm).2).1
    omega
  · rcases List.mem_cons.1 hE with rfl | hE
    · exact ⟨by omega, hd⟩
    · exact h3 E hE
/-- all marks are shut -/
structure Shut (base : Nat) (w w' : World) : Prop where
  os : w'.os = w.os
  tape : w'.tape = w.tape
  output : w'.output = w.output
  size : w'.heap.size = w.heap.size
  block : ∀ k, k < base → w'.heap[k]? = w.heap[k]?
  cells : ∀ (k : Nat) (o : Obj), w.heap[k]? = some o → (∀ d, o ≠ Obj.deferred d) → w'.heap[k]? = some o
theorem Shut.refl (base : Nat) (w : World) : Shut base w w := ⟨rfl, rfl, rfl, rfl, fun _ _ => rfl, fun _ _ h _ => h⟩
theorem Shut.trans {base : Nat} {a b c : World} (h : Shut base a b) (k : Shut base b c) : Shut base a c :=
  ⟨k.os.trans h.os, k.tape.trans h.tape, k.output.trans h.output, k.size.trans h.size, fun i hi => (k.block i hi).trans (h.block i hi), fun i o hi ho => k.cells i o (h.cells i o hi ho) ho⟩
theorem Shut.below {base B : Nat} {a w w' : World} (h : Shut base w w') (hb : Below B a w) (hB : B ≤ base) : Below B a w' :=
  ⟨h.os.trans hb.os, h.tape.trans hb.tape, h.output.trans hb.output, Nat.le_trans hb.size (Nat.le_of_eq h.size.symm), fun k hk => (h.block k (by omega)).trans (hb.block k hk)⟩
theorem Shut.row {base : Nat} {w w' : World} {k : Nat} {cs : Array Value} {t : TypeId} {fr : Nat × Nat} (h : Shut base w w') (hk : w.heap[k]? = some (.cells cs t fr)) : w'.heap[k]? = some (.cells cs t fr) := h.cells k _ hk (fun d e => by cases e)
theorem Shut.cell {base : Nat} {w w' : World} {a : Addr} {v : Value} (h : Shut base w w') (hc : w.cell? a = some v) : w'.cell? a = some v := by
  obtain ⟨o, ho, hcc⟩ := cells_of_cell hc
  refine (World.cell?_of_block ?_).trans hc
  rw [ho]
  exact h.cells _ _ ho (fun d e => by rw [e] at hcc; cases hcc)
theorem Shut.ownsRow {base B : Nat} {w w' : World} {e : TypeId} {sz n : Nat} {v : Value} {xs : List Value} (h : Shut base w w') (hr : w.ownsRow B e sz v n xs) : w'.ownsRow B e sz v n xs := by
  refine ⟨hr.1, ?_⟩
  rcases hr.2 with h' | ⟨g, cap, cur, h1, h2, h3, h4⟩
  · exact .inl h'
  · exact .inr ⟨g, cap, cur, h1, h2, h.row h3, h4⟩
theorem shut_one {base : Nat} {w : World} {D : Nat} (hb : base ≤ D) (h : w.heap[D]? = some (.deferred (some []))) : Shut base w (w.putObj D (.deferred none)) :=
  ⟨rfl, rfl, rfl, by simp [World.putObj], fun k hk => World.putObj_heap_other (by omega), fun k o hk ho => by
    rw [World.putObj_heap_other (fun e => by subst e; rw [h] at hk; cases hk; exact ho _ rfl)]
    exact hk⟩
/-- a function leaves: its marks are shut, one by one; then its results are read -/
theorem leaves_marks {F : Fence} {n : Nat} {P : Program} {fn : Func} {tmps : Array Value} {R : Ending → World → Prop} {base : Nat} : ∀ {ds : List Deferred} {w : World}, Marks base ds w →
    (∀ w', Shut base w w' → ∃ v, (results fn tmps).run P w' = .ok v w' ∧ R (.returned v) w') → LeavesInM F n P fn tmps R ds .returning w := by
  intro ds
  induction ds with
  | nil => exact fun {w} _ hR => hR w (Shut.refl _ _)
  | cons d ds ih =>
    intro w hm hR
    obtain ⟨Ds, h1, h2, h3⟩ := hm
    cases Ds with
    | nil => cases h1
    | cons D Ds =>
      simp only [List.map_cons, List.cons.injEq] at h1
      obtain ⟨rfl, rfl⟩ := h1
      obtain ⟨hb, hd⟩ := h3 D (List.mem_cons_self ..)
      rw [List.nodup_cons] at h2
      have hS := shut_one hb hd
      refine ⟨by simp, .inl ⟨D, _, rfl, run_takeDeferred hd, ih ⟨Ds, rfl, h2.2, fun E hE => ⟨(h3 E (List.mem_cons_of_mem _ hE)).1, ?_⟩⟩ fun w' hw' => hR w' (hS.trans hw')⟩⟩
      rw [World.putObj_heap_other (show E ≠ D from fun e => h2.1 (e ▸ hE))]
      exact (h3 E (List.mem_cons_of_mem _ hE)).2
/-- the blocks of S stay as they are -/
structure KS (S : Nat → Prop) (w w' : World) : Prop where
  os : w'.os = w.os
  tape : w'.tape = w.tape
  output : w'.output = w.output
  size : w.heap.size ≤ w'.heap.size
  block : ∀ k, k < w.heap.size → S k → w'.heap[k]? = w.heap[k]?
theorem KS.refl (S : Nat → Prop) (w : World) : KS S w w := ⟨rfl, rfl, rfl, Nat.le_refl _, fun _ _ _ => rfl⟩
theorem KS.trans {S : Nat → Prop} {a b c : World} (h : KS S a b) (k : KS S b c) : KS S a c :=
  ⟨k.os.trans h.os, k.tape.trans h.tape, k.output.trans h.output, Nat.le_trans h.size k.size, fun i hi hs => (k.block i (Nat.lt_of_lt_of_le hi h.size) hs).trans (h.block i hi hs)⟩
theorem KS.mono {S T : Nat → Prop} {a b : World} (h : KS S a b) (hs : ∀ k, T k → S k) : KS T a b := ⟨h.os, h.tape, h.output, h.size, fun k hk hT => h.block k hk (hs k hT)⟩
theorem KS.grown {S : Nat → Prop} {a w w' : World} {row : Option Nat} (h : KS S a w) (hg : w.grownBy w' row) (hr : ∀ k, row = some k → ¬ S k) : KS S a w' :=
  ⟨hg.os.trans h.os, hg.tape.trans h.tape, hg.output.trans h.output, Nat.le_trans h.size hg.size, fun k hk hs => (hg.block k (Nat.lt_of_lt_of_le hk h.size) (fun e => hr k e.symm hs)).trans (h.block k hk hs)⟩
theorem KS.alloc {S : Nat → Prop} {a w : World} (h : KS S a w) (o : Obj) : KS S a (w.alloc o) := h.grown (World.grownBy_alloc w o none) (fun _ e => by cases e)
theorem KS.below {S : Nat → Prop} {B : Nat} {a w : World} (h : KS S a w) (hS : ∀ k, k < B → S k) (hB : B ≤ a.heap.size) : Below B a w := ⟨h.os, h.tape, h.output, h.size, fun k hk => h.block k (by omega) (hS k hk)⟩
theorem KS.of_below {S : Nat → Prop} {B : Nat} {a w : World} (h : Below B a w) (hS : ∀ k, S k → k < B) : KS S a w := ⟨h.os, h.tape, h.output, h.size, fun k _ hs => h.block k (hS k hs)⟩
theorem KS.cell {S : Nat → Prop} {a w : World} (h : KS S a w) {p : Addr} {v : Value} (hp : a.cell? p = some v) (hs : S p.block) : w.cell? p = some v :=
  (World.cell?_of_block (h.block _ (World.block_lt_of_cell? a _ hp) hs)).trans hp
theorem ownFrom_ks {β : Type} {S : Nat → Prop} {B : Nat} {w₀ : World} (hS : ∀ k, B ≤ k → w₀.heap.size ≤ k → ¬ S k) (hB : w₀.heap.size ≤ B) : OwnFrom B (fun (_ : β) W => KS S w₀ W) :=
  fun _ _ _ _ hs hg hr => hs.grown hg (fun k e => hS k (hr k e).1 (Nat.le_trans hB (hr k e).1))
/-- what the law of a range over a function asks of the blocks that its own book-keeping turns -/
theorem ks_b {S : Nat → Prop} {w : World} (hS : ∀ k, w.heap.size ≤ k → ¬ S k) (W : World) (l : Nat) (o o' : Obj) (hl : w.heap.size ≤ l) (h : W.heap[l]? = some o) (_ : o.isCells = false) (_ : o.isWalk = false) : KS S W (W.putObj l o') :=
  (KS.refl S W).grown (grownBy_putObj' W l o') (fun k e => by cases e; exact hS _ hl)
theorem Marks.own {β : Type} {base B : Nat} {ds : List Deferred} {w : World} (hB : w.heap.size ≤ B) (h : Marks base ds w) : OwnFrom B (fun (_ : β) W => KS (fun k => ∃ D, mark D ∈ ds ∧ k = D) w W) :=
  ownFrom_ks (fun k hk hw => by
    rintro ⟨D, hD, rfl⟩
    obtain ⟨Ds, rfl, _, h3⟩ := h
    obtain ⟨E, hE, e⟩ := List.mem_map.1 hD
    obtain rfl : E = k := by simpa [mark] using e
    have := (Array.getElem?_eq_some_iff.1 (h3 E hE).2).1
    omega) hB
end Go.Proofs.YtldgjljecbohoaaGreatDoor
