import Derived.Test.YtpppbkdbpbpinaaGreatDoorG20
import Derived.Test.YtpppbkdbpbpinaaGreatDoorG27
import Derived.Test.YtpppbkdbpbpinaaGreatDoorG0
import Derived.Test.YtpppbkdbpbpinaaGreatDoorG6
import Derived.Lib.Strings
import Derived.Test.YtpppbkdbpbpinaaGreatDoorG3
import Derived.BigQuiet
import Derived.Test.YtpppbkdbpbpinaaGreatDoorG8
import Derived.OwnWalkIn
import Derived.Test.YtpppbkdbpbpinaaGreatDoorG25
set_option linter.unusedSimpArgs false
set_option linter.unusedVariables false
/- distance.pairs and its iterator: their contracts, for every loop body. -/
set_option linter.unusedVariables false
namespace Go.Proofs.YtpppbkdbpbpinaaGreatDoor
open Go.RowKit Go.Shelf
attribute [local go_sem] Oper.semAt_some
set_option maxHeartbeats 1000000 in
theorem pairs_in (A : Option Addr) (n c : Nat) (w : World) :
    Calls Tryz.prog 123 #[.slice A n c] w fun e w' => e = .returned (.func (.func 204) #[] #[.pointer (some ⟨w.heap.size, 0, none⟩)]) ∧ w' = w.alloc (.cells #[.slice A n c] 25) := by
  go_enter Tryz.func123, Tryz.ntmps123
  go_wp2
  go_ret
  exact ⟨rfl, rfl⟩
theorem grown_drewN (W : World) (q : Nat) : W.grownBy (W.drewN q) none := ⟨rfl, rfl, rfl, Nat.le_refl _, fun _ _ _ => rfl⟩
set_option maxRecDepth 100000 in
set_option maxHeartbeats 2000000 in
theorem pairsf_in (n : Nat) (hn : 1 ≤ n) (l c0 c B : Nat) (xs : List ByteArray) (A : Option Addr) (hc : xs.length ≤ 4294967296) (z : Nat) (hz : ∀ k (hk : k < xs.length), xs[k].size = z) (hzb : z ≤ 4294967296) (Kp : World → World → Prop) (hKr : ∀ W, Kp W W) (hKd : ∀ W q, Kp W (W.drewN q)) (hKt : ∀ {X Y Z : World}, Kp X Y → Kp Y Z → Kp X Z) (J Jx : List Nat → World → Prop) (hJ : AbidesFrom B J)
    (hY : ∀ pre x W, J pre W → pre ++ [x] <+: prs xs → YieldAt Fence.wide (n - 1) Tryz.prog l #[.int .i64 (x : Nat)] W fun e W' =>
      (e = .returned (.bool true) ∧ J (pre ++ [x]) W' ∧ Kp W W') ∨ (e = .returned (.bool false) ∧ Jx (pre ++ [x]) W'))
    (W : World) (hR : ∀ W', Kp W W' → RowT W' A xs ∧ W'.cell? ⟨c0, 0, none⟩ = some (.slice A xs.length c)) (h0 : J [] W) :
    CallsIn Fence.wide n Tryz.prog 204 #[.func (.yield l) #[] #[], .pointer (some ⟨c0, 0, none⟩)] W fun e W' => (∃ v, e = .returned v) ∧
      ((∃ ys, ys = prs xs ∧ J ys W') ∨ (∃ pre, pre <+: prs xs ∧ Jx pre W')) := by
  have HR := hide hR
  have HY := hide hY
  have HJ := hide (fun s X q (h : J s X) => hJ s X (X.drewN q) none h (grown_drewN X q) (fun r e => by cases e))
  have HKd := hide hKd
  have HKd1 := hide (fun W => show Kp W W.drew from hKd W 1)
  have HJ1 := hide (fun s X (h : J s X) => hJ s X X.drew none h ⟨rfl, rfl, rfl, Nat.le_refl _, fun _ _ _ => rfl⟩ (fun r e => by cases e))
  have HC := hide (fun u v W (h1 : u.size = z) (h2 : v.size = z) => callsIn_wide (n := n - 1).2 (dsham_any u v W (h1.trans h2.symm) (by omega)))
  have HZ := hide hz
  have hmx : Tryz.prog.follows .mixedOrders = true := by kernel_rfl
  obtain ⟨_, e0⟩ := hR W (hKr W)
  clear hR hY hz
  refine callsIn_of_wp Tryz.func204 rfl trivial ?_ rfl
  simp only [Tryz.ntmps204, List.size_toArray, List.length_cons, List.length_nil, Nat.reduceAdd, Nat.reduceSub, Array.replicate_succ, Array.replicate_zero, List.push_toArray, List.append_toArray, List.nil_append, List.cons_append]
  gi_wp2
  gi_loopw [7] (fun iv wr => ∃ i : Nat, i ≤ xs.length ∧ iv = .int .i64 i ∧ J (prsP xs i 0) wr ∧ Kp W wr) (fun iv _ => xs.length - (intOf iv).toNat)
  case atStart => exact ⟨0, Nat.zero_le _, rfl, by rw [prsP_zero]; exact h0, hKr W⟩
  case round =>
    obtain ⟨i, hi, rfl, hJs, hnx⟩ := hrel
    clear h0 e0
    by_cases hlt : i < xs.length
    · have hi0 : (0 : Int) ≤ (i : Int) := by omega
      have hi1 : (i : Int) < (xs.length : Int) := by omega
      have HJs := hide hJs
      have HNX := hide hnx
      clear hJs hnx
      obtain ⟨wr1, rfl⟩ : ∃ wr1, wr1 = wr := ⟨_, rfl⟩
      gi_wp2
      gi_loopw [11] (fun jv wr => ∃ j : Nat, j ≤ i ∧ jv = .int .i64 j ∧ J (prsP xs i j) wr ∧ Kp W wr) (fun jv _ => i - (intOf jv).toNat)
      case atStart => exact ⟨0, Nat.zero_le _, rfl, HJs.out, HNX.out⟩
      case round =>
        obtain ⟨j, hj, rfl, hJs, hnx⟩ := hrel
        clear HJs HNX
        obtain ⟨wr2, rfl⟩ : ∃ wr2, wr2 = wr := ⟨_, rfl⟩
        by_cases hjl : j < i
        · have hj0 : (0 : Int) ≤ (j : Int) := by omega
          have hj1 : (j : Int) < (xs.length : Int) := by omega
          have hj2 : (j : Int) < (i : Int) := by omega
          obtain ⟨hRo, e1⟩ := HR.out wr2 hnx
          obtain ⟨b, o, rfl, hbl, hcell⟩ := hRo (by omega)
          have e2 := hcell i hlt
          have e3 := hcell j (by omega)
          have HIn := hide (prsP_in xs i j)
          have hxi : xs.getD i ⟨#[]⟩ = xs[i] := by simp [hlt]
          have hxj : xs.getD j ⟨#[]⟩ = xs[j] := by simp [show j < xs.length by omega]
          have hzi := HZ.out i hlt
          have hzj := HZ.out j (by omega)
          rw [hxi, hxj] at HIn
          obtain ⟨x, hx⟩ : ∃ x, xs[i] = x := ⟨_, rfl⟩
          obtain ⟨y, hy⟩ : ∃ y, xs[j] = y := ⟨_, rfl⟩
          rw [hx] at e2 HIn hzi
          rw [hy] at e3 HIn hzj
          have HPre := hide (prsP_pre xs hlt (show j + 1 ≤ i by omega))
          have HZI := hide hzi
          have HZJ := hide hzj
          have HJs := hide hJs
          have HNX := hide hnx
          have HCx := hide (fun W => HC.out x y W HZI.out HZJ.out)
          have HY2 := hide (fun W (h : J (prsP xs i j) W) => (HY.out (prsP xs i j) (ham x y) W h (by rw [← HIn.out]; exact HPre.out)).mono (R' := fun e W' => ∃ b : Bool, e = .returned (.bool b) ∧ Hid (b = true → J (prsP xs i (j + 1)) W' ∧ Kp W W') ∧ Hid (b = false → Jx (prsP xs i (j + 1)) W')) (by
            rintro e W3 (⟨rfl, h1, h2⟩ | ⟨rfl, h1⟩)
            · exact ⟨true, rfl, hide fun _ => ⟨HIn.out ▸ h1, h2⟩, hide (fun h => Bool.noConfusion h)⟩
            · exact ⟨false, rfl, hide (fun h => Bool.noConfusion h), hide fun _ => HIn.out ▸ h1⟩))
          obtain ⟨d, hd⟩ : ∃ d, ham x y = d := ⟨_, rfl⟩
          rw [hd] at HCx HY2
          clear hx hy hRo hcell hJs hnx hxi hxj hzi hzj HIn hd
          gi_wp2_with fail
          gi_region_with_o (first
            | (refine ⟨trivial, ?_⟩; gi_at_call 61; refine (HCx.out _).mono ?_; rintro e w1 ⟨rfl, q, hw1⟩; have hk1 := hide (hKt (HKd1.out wr2) (hw1 ▸ HKd.out wr2.drew q)); obtain ⟨fn, tmps, assign, body, hy, hR⟩ := HY2.out w1 (hw1 ▸ HJ.out _ _ q (HJ1.out _ _ HJs.out)); clear hw1)
            | (refine hR.mono ?_; rintro e W3 ⟨b, rfl, hT, hF⟩)
            | (refine ⟨(fun h => nomatch h), ?_⟩; refine hR.mono ?_; rintro e W3 ⟨b, rfl, hT, hF⟩))
          all_goals
            clear hR hy e1 e2 e3
            cases b
            · have hJx3 := hF.out rfl
              gi_wp2
              refine bodyPost_ret (results_none rfl _ _ _) rfl ?_
              exact ⟨⟨_, rfl⟩, .inr ⟨_, HPre.out, hJx3⟩⟩
            · obtain ⟨hJ3, hk3⟩ := hT.out rfl
              have hk4 := hide (hKt (hKt HNX.out hk1.out) hk3)
              clear hk3 HCx HY2
              gi_wp2
              exact ⟨⟨j + 1, hjl, by go_num, hJ3, hk4.out⟩, by simp [intOf]; omega⟩
        · obtain rfl : j = i := by omega
          have HJ2 := hide (show J (prsP xs (j + 1) 0) wr2 by rw [prsP_out]; exact hJs)
          have HNX := hide hnx
          clear hJs hnx
          gi_wp2
          go_roundw
          case rel => exact ⟨j + 1, hlt, by go_num, HJ2.out, HNX.out⟩
          case measure => simp [intOf]; omega
    · obtain rfl : i = xs.length := by omega
      gi_wp2
      go_end0
      exact ⟨⟨_, rfl⟩, .inl ⟨_, rfl, hJs⟩⟩
theorem pairsf_stops (n : Nat) (hn : 1 ≤ n) (c0 c : Nat) (xs : List ByteArray) (A : Option Addr) (hc : xs.length ≤ 4294967296) (z : Nat) (hz : ∀ k (hk : k < xs.length), xs[k].size = z) (hzb : z ≤ 4294967296) (Kp : World → World → Prop) (hKr : ∀ W, Kp W W) (hKd : ∀ W q, Kp W (W.drewN q)) (hKt : ∀ {X Y Z : World}, Kp X Y → Kp Y Z → Kp X Z) (w : World)
    (hR : ∀ W W', Below w.heap.size w W → Kp W W' → RowT W' A xs ∧ W'.cell? ⟨c0, 0, none⟩ = some (.slice A xs.length c)) :
    SeqStopsK Fence.wide n Tryz.prog 204 #[.pointer (some ⟨c0, 0, none⟩)] (fun x : Nat => #[.int .i64 (x : Nat)]) Kp (fun ys => ys = prs xs) (fun pre => pre <+: prs xs) (prs xs).length w := by
  intro l J Jx W hW hJ _ hY h0
  refine pairsf_in n hn l c0 c W.heap.size xs A hc z hz hzb Kp hKr hKd hKt J Jx hJ ?_ W (fun W' hW' => hR W W' hW hW') h0
  intro pre x W1 h hp
  have hl := hp.length_le
  simp at hl
  exact hY pre x W1 h (by omega)
end Go.Proofs.YtpppbkdbpbpinaaGreatDoor

/- Loops in which a range over a function stands: each of its runs leaves a mark among the frame's deferred calls; the marks' laws. 'KS': what a world keeps of another. No function in sight. -/
set_option linter.unusedVariables false
namespace Go.Proofs.YtpppbkdbpbpinaaGreatDoor
open Go.RowKit Go.Shelf
def mark (D : Nat) : Deferred := { target := .collected D, args := #[] }
/-- the deferred calls are marks of blocks from 'base' on, none of which has been shut -/
def Marks (base : Nat) (ds : List Deferred) (w : World) : Prop := ∃ Ds : List Nat, ds = Ds.map mark ∧ Ds.Nodup ∧ ∀ D ∈ Ds, base ≤ D ∧ w.heap[D]? = some (.deferred (some []))
theorem Marks.nil (base : Nat) (w : World) : Marks base [] w := ⟨[], rfl, List.nodup_nil, fun _ h => nomatch h⟩
theorem Marks.kept {base : Nat} {ds : List Deferred} {w w' : World} (h : Marks base ds w) (hk : ∀ D, base ≤ D → w.heap[D]? = some (.deferred (some [])) → w'.heap[D]? = some (.deferred (some []))) : Marks base ds w' := by
  obtain ⟨Ds, h1, h2, h3⟩ := h
  exact ⟨Ds, h1, h2, fun D hD => ⟨(h3 D hD).1, hk D (h3 D hD).1 (h3 D hD).2⟩⟩
/-- one more mark, of a block that was made when all others were there -/
theorem Marks.cons {base : Nat} {ds : List Deferred} {w0 w : World} {D : Nat} (h0 : Marks base ds w0) (h : Marks base ds w) (hb : base ≤ w0.heap.size) (hD : w0.heap.size ≤ D) (hd : w.heap[D]? = some (.deferred (some []))) : Marks base (mark D :: ds) w := by
  obtain ⟨Ds, h1, h2, h3⟩ := h
  obtain ⟨Es, e1, _, e3⟩ := h0
  have hin : ∀ (x y : List Nat), x.map mark = y.map mark → x = y := fun x y => List.map_inj_right (fun a b e => by simpa [mark] using e) |>.1
  obtain rfl : Ds = Es := hin _ _ (h1.symm.trans e1)
  refine ⟨D :: Ds, by rw [h1]; rfl, List.nodup_cons.2 ⟨fun hm => ?_, h2⟩, fun E hE => ?_⟩
  · have := (Array.getElem?_eq_some_iff.1 (e3 D hm).2).1
    omega
  · rcases List.mem_cons.1 hE with rfl | hE
    · exact ⟨by omega, hd⟩
    · exact h3 E hE
/-- all marks are shut -/
structure Shut (base : Nat) (w w' : World) : Prop where
  os : w'.os = w.os
  tape : w'.tape = w.tape
  output : w'.output = w.output
  size : w'.heap.size = w.heap.size
  block : ∀ k, k < base → w'.heap[k]? = w.heap[k]?
  cells : ∀ (k : Nat) (o : Obj), w.heap[k]? = some o → (∀ d, o ≠ Obj.deferred d) → w'.heap[k]? = some o
theorem Shut.refl (base : Nat) (w : World) : Shut base w w := ⟨rfl, rfl, rfl, rfl, fun _ _ => rfl, fun _ _ h _ => h⟩
theorem Shut.trans {base : Nat} {a b c : World} (h : Shut base a b) (k : Shut base b c) : Shut base a c :=
  ⟨k.os.trans h.os, k.tape.trans h.tape, k.output.trans h.output, k.size.trans h.size, fun i hi => (k.block i hi).trans (h.block i hi), fun i o hi ho => k.cells i o (h.cells i o hi ho) ho⟩
theorem Shut.below {base B : Nat} {a w w' : World} (h : Shut base w w') (hb : Below B a w) (hB : B ≤ base) : Below B a w' :=
  ⟨h.os.trans hb.os, h.tape.trans hb.tape, h.output.trans hb.output, Nat.le_trans hb.size (Nat.le_of_eq h.size.symm), fun k hk => (h.block k (by omega)).trans (hb.block k hk)⟩
theorem Shut.row {base : Nat} {w w' : World} {k : Nat} {cs : Array Value} {t : TypeId} {fr : Nat × Nat} (h : Shut base w w') (hk : w.heap[k]? = some (.cells cs t fr)) : w'.heap[k]? = some (.cells cs t fr) := h.cells k _ hk (fun d e => by cases e)
theorem Shut.cell {base : Nat} {w w' : World} {a : Addr} {v : Value} (h : Shut base w w') (hc : w.cell? a = some v) : w'.cell? a = some v := by
  obtain ⟨o, ho, hcc⟩ := cells_of_cell hc
  refine (World.cell?_of_block ?_).trans hc
  rw [ho]
  exact h.cells _ _ ho (fun d e => by rw [e] at hcc; cases hcc)
theorem Shut.ownsRow {base B : Nat} {w w' : World} {e : TypeId} {sz n : Nat} {v : Value} {xs : List Value} (h : Shut base w w') (hr : w.ownsRow B e sz v n xs) : w'.ownsRow B e sz v n xs := by
  refine ⟨hr.1, ?_⟩
  rcases hr.2 with h' | ⟨g, cap, cur, h1, h2, h3, h4⟩
  · exact .inl h'
  · exact .inr ⟨g, cap, cur, h1, h2, h.row h3, h4⟩
theorem shut_one {base : Nat} {w : World} {D : Nat} (hb : base ≤ D) (h : w.heap[D]? = some (.deferred (some []))) : Shut base w (w.putObj D (.deferred none)) :=
  ⟨rfl, rfl, rfl, by simp [World.putObj], fun k hk => World.putObj_heap_other (by omega), fun k o hk ho => by
    rw [World.putObj_heap_other (fun e => by subst e; rw [h] at hk; cases hk; exact ho _ rfl)]
    exact hk⟩
/-- a function leaves: its marks are shut, one by one; then its results are read -/
theorem leaves_marks {F : Fence} {n : Nat} {P : Program} {fn : Func} {tmps : Array Value} {R : Ending → World → Prop} {base : Nat} : ∀ {ds : List Deferred} {w : World}, Marks base ds w →
    (∀ w', Shut base w w' → ∃ v, (results fn tmps).run P w' = .ok v w' ∧ R (.returned v) w') → LeavesInM F n P fn tmps R ds .returning w := by
  intro ds
  induction ds with
  | nil => exact fun {w} _ hR => hR w (Shut.refl _ _)
  | cons d ds ih =>
    intro w hm hR
    obtain ⟨Ds, h1, h2, h3⟩ := hm
    cases Ds with
    | nil => cases h1
    | cons D Ds =>
      simp only [List.map_cons, List.cons.injEq] at h1
      obtain ⟨rfl, rfl⟩ := h1
      obtain ⟨hb, hd⟩ := h3 D (List.mem_cons_self ..)
      rw [List.nodup_cons] at h2
      have hS := shut_one hb hd
      refine ⟨by simp, .inl ⟨D, _, rfl, run_takeDeferred hd, ih ⟨Ds, rfl, h2.2, fun E hE => ⟨(h3 E (List.mem_cons_of_mem _ hE)).1, ?_⟩⟩ fun w' hw' => hR w' (hS.trans hw')⟩⟩
      rw [World.putObj_heap_other (show E ≠ D from fun e => h2.1 (e ▸ hE))]
      exact (h3 E (List.mem_cons_of_mem _ hE)).2
/-- the blocks of S stay as they are -/
structure KS (S : Nat → Prop) (w w' : World) : Prop where
  os : w'.os = w.os
  tape : w'.tape = w.tape
  output : w'.output = w.output
  size : w.heap.size ≤ w'.heap.size
  block : ∀ k, k < w.heap.size → S k → w'.heap[k]? = w.heap[k]?
theorem KS.refl (S : Nat → Prop) (w : World) : KS S w w := ⟨rfl, rfl, rfl, Nat.le_refl _, fun _ _ _ => rfl⟩
theorem KS.trans {S : Nat → Prop} {a b c : World} (h : KS S a b) (k : KS S b c) : KS S a c :=
  ⟨k.os.trans h.os, k.tape.trans h.tape, k.output.trans h.output, Nat.le_trans h.size k.size, fun i hi hs => (k.block i (Nat.lt_of_lt_of_le hi h.size) hs).trans (h.block i hi hs)⟩
theorem KS.mono {S T : Nat → Prop} {a b : World} (h : KS S a b) (hs : ∀ k, T k → S k) : KS T a b := ⟨h.os, h.tape, h.output, h.size, fun k hk hT => h.block k hk (hs k hT)⟩
theorem KS.grown {S : Nat → Prop} {a w w' : World} {row : Option Nat} (h : KS S a w) (hg : w.grownBy w' row) (hr : ∀ k, row = some k → ¬ S k) : KS S a w' :=
  ⟨hg.os.trans h.os, hg.tape.trans h.tape, hg.output.trans h.output, Nat.le_trans h.size hg.size, fun k hk hs => (hg.block k (Nat.lt_of_lt_of_le hk h.size) (fun e => hr k e.symm hs)).trans (h.block k hk hs)⟩
theorem KS.alloc {S : Nat → Prop} {a w : World} (h : KS S a w) (o : Obj) : KS S a (w.alloc o) := h.grown (World.grownBy_alloc w o none) (fun _ e => by cases e)
theorem KS.below {S : Nat → Prop} {B : Nat} {a w : World} (h : KS S a w) (hS : ∀ k, k < B → S k) (hB : B ≤ a.heap.size) : Below B a w := ⟨h.os, h.tape, h.output, h.size, fun k hk => h.block k (by omega) (hS k hk)⟩
theorem KS.of_below {S : Nat → Prop} {B : Nat} {a w : World} (h : Below B a w) (hS : ∀ k, S k → k < B) : KS S a w := ⟨h.os, h.tape, h.output, h.size, fun k _ hs => h.block k (hS k hs)⟩
theorem KS.cell {S : Nat → Prop} {a w : World} (h : KS S a w) {p : Addr} {v : Value} (hp : a.cell? p = some v) (hs : S p.block) : w.cell? p = some v :=
  (World.cell?_of_block (h.block _ (World.block_lt_of_cell? a _ hp) hs)).trans hp
theorem ownFrom_ks {β : Type} {S : Nat → Prop} {B : Nat} {w₀ : World} (hS : ∀ k, B ≤ k → w₀.heap.size ≤ k → ¬ S k) (hB : w₀.heap.size ≤ B) : OwnFrom B (fun (_ : β) W => KS S w₀ W) :=
  fun _ _ _ _ hs hg hr => hs.grown hg (fun k e => hS k (hr k e).1 (Nat.le_trans hB (hr k e).1))
/-- what the law of a range over a function asks of the blocks that its own book-keeping turns -/
theorem ks_b {S : Nat → Prop} {w : World} (hS : ∀ k, w.heap.size ≤ k → ¬ S k) (W : World) (l : Nat) (o o' : Obj) (hl : w.heap.size ≤ l) (h : W.heap[l]? = some o) (_ : o.isCells = false) (_ : o.isWalk = false) : KS S W (W.putObj l o') :=
  (KS.refl S W).grown (grownBy_putObj' W l o') (fun k e => by cases e; exact hS _ hl)
theorem Marks.own {β : Type} {base B : Nat} {ds : List Deferred} {w : World} (hB : w.heap.size ≤ B) (h : Marks base ds w) : OwnFrom B (fun (_ : β) W => KS (fun k => ∃ D, mark D ∈ ds ∧ k = D) w W) :=
  ownFrom_ks (fun k hk hw => by
    rintro ⟨D, hD, rfl⟩
    obtain ⟨Ds, rfl, _, h3⟩ := h
    obtain ⟨E, hE, e⟩ := List.mem_map.1 hD
    obtain rfl : E = k := by simpa [mark] using e
    have := (Array.getElem?_eq_some_iff.1 (h3 E hE).2).1
    omega) hB
end Go.Proofs.YtpppbkdbpbpinaaGreatDoor

/- Plain: Sardinas and Patterson: dangling rests decide whether a code is decodable. No program in sight. -/
set_option linter.unusedVariables false
namespace Go.Proofs.YtpppbkdbpbpinaaGreatDoor.Sar
abbrev Wd := List UInt8
/-- the rest of a longer word behind a shorter one -/
def Fst (W : List Wd) (r : Wd) : Prop := r ≠ [] ∧ ∃ x y, x ∈ W ∧ y ∈ W ∧ y = x ++ r
/-- what follows a rest -/
def Nxt (W : List Wd) (r u : Wd) : Prop := ∃ x, x ∈ W ∧ (r = x ++ u ∨ (x = r ++ u ∧ u ≠ []))
/-- a list of rests that lacks none -/
structure Closed (W R : List Wd) : Prop where
  fst : ∀ r, Fst W r → r ∈ R
  nxt : ∀ r, r ∈ R → r ≠ [] → ∀ u, Nxt W r u → u ∈ R
theorem dang {W R : List Wd} (hR : Closed W R) : ∀ (n : Nat) (A B : List Wd) (r : Wd), A.length + B.length ≤ n → r ∈ R → (∀ x ∈ A, x ∈ W) → (∀ x ∈ B, x ∈ W) → r ++ A.flatten = B.flatten → [] ∈ R
  | n, A, [], r, _, hr, _, _, h => by
    rw [List.flatten_nil, List.append_eq_nil_iff] at h
    rw [h.1] at hr; exact hr
  | 0, A, x :: B, r, hn, _, _, _, _ => by simp at hn
  | n + 1, A, x :: B, r, hn, hr, hA, hB, h => by
    by_cases h0 : r = []
    · rw [h0] at hr; exact hr
    · rw [List.flatten_cons] at h
      have hxW := hB x (List.mem_cons_self ..)
      have hBW : ∀ y ∈ B, y ∈ W := fun y hy => hB y (List.mem_cons_of_mem _ hy)
      rw [List.length_cons] at hn
      rcases List.append_eq_append_iff.1 h with ⟨a, h1, h2⟩ | ⟨c, h1, h2⟩
      · by_cases ha : a = []
        · subst ha
          rw [List.append_nil] at h1
          exact hR.nxt r hr h0 [] ⟨x, hxW, .inl (by rw [h1, List.append_nil])⟩
        · exact dang hR n B A a (by omega) (hR.nxt r hr h0 a ⟨x, hxW, .inr ⟨h1, ha⟩⟩) hBW hA h2.symm
      · exact dang hR n A B c (by omega) (hR.nxt r hr h0 c ⟨x, hxW, .inl h1⟩) hA hBW h2.symm
/-- the message of a list of places -/
def cat (W : List Wd) (l : List Nat) : Wd := (l.map fun i => W.getD i []).flatten
theorem cat_cons (W : List Wd) (i : Nat) (l : List Nat) : cat W (i :: l) = W.getD i [] ++ cat W l := by unfold cat; rw [List.map_cons, List.flatten_cons]
theorem amb {W R : List Wd} (hR : Closed W R) (hne : ∀ x ∈ W, x ≠ []) (hinj : ∀ i j, i < W.length → j < W.length → W.getD i [] = W.getD j [] → i = j) :
    ∀ (l m : List Nat), (∀ i ∈ l, i < W.length) → (∀ i ∈ m, i < W.length) → l ≠ m → cat W l = cat W m → [] ∈ R := by
  have hmem : ∀ i, i < W.length → W.getD i [] ∈ W := fun i hi => by
    rw [List.getD_eq_getElem?_getD, List.getElem?_eq_getElem hi]; exact List.getElem_mem hi
  have hall : ∀ l : List Nat, (∀ i ∈ l, i < W.length) → ∀ x ∈ l.map fun i => W.getD i [], x ∈ W := fun l hl x hx => by
    obtain ⟨i, hi, rfl⟩ := List.mem_map.1 hx
    exact hmem i (hl i hi)
  intro l
  induction l with
  | nil =>
    intro m _ hm hne2 h
    match m, hne2, hm, h with
    | [], hne2, _, _ => exact absurd rfl hne2
    | j :: m, _, hm, h =>
      rw [cat_cons] at h
      have h' := (List.append_eq_nil_iff.1 h.symm).1
      exact absurd h' (hne _ (hmem j (hm j (List.mem_cons_self ..))))
  | cons i l ih =>
    intro m hl hm hne2 h
    match m, hne2, hm, h with
    | [], _, _, h =>
      rw [cat_cons] at h
      have h' := (List.append_eq_nil_iff.1 h).1
      exact absurd h' (hne _ (hmem i (hl i (List.mem_cons_self ..))))
    | j :: m, hne2, hm, h =>
      have hi := hl i (List.mem_cons_self ..)
      have hj := hm j (List.mem_cons_self ..)
      have hlt : ∀ k ∈ l, k < W.length := fun k hk => hl k (List.mem_cons_of_mem _ hk)
      have hmt : ∀ k ∈ m, k < W.length := fun k hk => hm k (List.mem_cons_of_mem _ hk)
      rw [cat_cons, cat_cons] at h
      by_cases hij : i = j
      · subst hij
        exact ih m hlt hmt (fun e => hne2 (by rw [e])) (List.append_cancel_left h)
      · have hwn : W.getD i [] ≠ W.getD j [] := fun e => hij (hinj i j hi hj e)
        rcases List.append_eq_append_iff.1 h with ⟨a, h1, h2⟩ | ⟨c, h1, h2⟩
        · have ha : a ≠ [] := fun e => hwn (by rw [h1, e, List.append_nil])
          exact dang hR _ _ _ a (Nat.le_refl _) (hR.fst a ⟨ha, _, _, hmem i hi, hmem j hj, h1⟩) (hall m hmt) (hall l hlt) h2.symm
        · have hc : c ≠ [] := fun e => hwn (by rw [h1, e, List.append_nil])
          exact dang hR _ _ _ c (Nat.le_refl _) (hR.fst c ⟨hc, _, _, hmem j hj, hmem i hi, h1⟩) (hall l hlt) (hall m hmt) h2.symm
end Go.Proofs.YtpppbkdbpbpinaaGreatDoor.Sar

/- Plain: the dangling rests of a code as a list; it is closed, and in each closed list. No program in sight. -/
set_option linter.unusedVariables false
namespace Go.Proofs.YtpppbkdbpbpinaaGreatDoor.Sar
theorem sub_len2 {α : Type} [BEq α] [LawfulBEq α] : ∀ (l m : List α), l.Nodup → (∀ x ∈ l, x ∈ m) → l.length ≤ m.length
  | [], m, _, _ => Nat.zero_le _
  | x :: l, m, hn, h => by
    have hx := h x (List.mem_cons_self ..)
    rw [List.nodup_cons] at hn
    have h1 := sub_len2 l (m.erase x) hn.2 fun y hy => (List.mem_erase_of_ne (by rintro rfl; exact hn.1 hy)).2 (h y (List.mem_cons_of_mem _ hy))
    rw [List.length_erase_of_mem hx] at h1
    have := List.length_pos_of_mem hx
    rw [List.length_cons]
    omega
/-- one pair's rest -/
def fst1 (x y : Wd) : List Wd := if x.isPrefixOf y ∧ y.drop x.length ≠ [] then [y.drop x.length] else []
def fstL (W : List Wd) : List Wd := W.flatMap fun x => W.flatMap fun y => fst1 x y
/-- what follows a rest, by one word -/
def nxt1 (r x : Wd) : List Wd := if x.isPrefixOf r then [r.drop x.length] else if r.isPrefixOf x then [x.drop r.length] else []
def nxtL (W : List Wd) (r : Wd) : List Wd := W.flatMap (nxt1 r)
theorem pre_iff {x y : Wd} : x.isPrefixOf y = true ↔ y = x ++ y.drop x.length := by
  rw [List.isPrefixOf_iff_prefix]
  constructor
  · rintro ⟨t, rfl⟩; rw [List.drop_left]
  · intro h; exact ⟨_, h.symm⟩
theorem fstL_iff {W : List Wd} {r : Wd} : r ∈ fstL W ↔ Fst W r := by
  unfold fstL Fst
  simp only [List.mem_flatMap]
  constructor
  · rintro ⟨x, hx, y, hy, h⟩
    unfold fst1 at h
    split at h
    · rename_i hc
      obtain rfl : r = y.drop x.length := by simpa using h
      exact ⟨hc.2, x, y, hx, hy, pre_iff.1 hc.1⟩
    · cases h
  · rintro ⟨h0, x, y, hx, hy, h⟩
    have e : y.drop x.length = r := by rw [h, List.drop_left]
    refine ⟨x, hx, y, hy, ?_⟩
    unfold fst1
    rw [if_pos ⟨pre_iff.2 (by rw [e]; exact h), by rw [e]; exact h0⟩, e]
    exact List.mem_singleton.2 rfl
theorem nxtL_iff {W : List Wd} {r u : Wd} : u ∈ nxtL W r ↔ Nxt W r u := by
  unfold nxtL Nxt
  rw [List.mem_flatMap]
  constructor
  · rintro ⟨x, hx, h⟩
    refine ⟨x, hx, ?_⟩
    unfold nxt1 at h
    split at h
    · rename_i hp
      obtain rfl : u = r.drop x.length := by simpa using h
      exact .inl (pre_iff.1 hp)
    · rename_i hn
      split at h
      · rename_i hp
        obtain rfl : u = x.drop r.length := by simpa using h
        refine .inr ⟨pre_iff.1 hp, fun e => hn ?_⟩
        have h2 := pre_iff.1 hp
        rw [e, List.append_nil] at h2
        rw [h2]
        exact pre_iff.2 (by simp)
      · cases h
  · rintro ⟨x, hx, h | ⟨h, h0⟩⟩
    · refine ⟨x, hx, ?_⟩
      have e : r.drop x.length = u := by rw [h, List.drop_left]
      unfold nxt1
      rw [if_pos (pre_iff.2 (by rw [e]; exact h)), e]
      exact List.mem_singleton.2 rfl
    · refine ⟨x, hx, ?_⟩
      have e : x.drop r.length = u := by rw [h, List.drop_left]
      unfold nxt1
      rw [if_neg, if_pos (pre_iff.2 (by rw [e]; exact h)), e]
      · exact List.mem_singleton.2 rfl
      · intro hp
        have h1 := congrArg List.length (pre_iff.1 hp)
        rw [List.length_append] at h1
        have h2 := congrArg List.length h
        rw [List.length_append] at h2
        have : 0 < u.length := List.length_pos_iff.2 h0
        omega
/-- what is added to a list, each once -/
def add1 (out : List Wd) (r : Wd) : List Wd := if r ∈ out then out else out ++ [r]
def addL (out l : List Wd) : List Wd := l.foldl add1 out
theorem add1_mem {out : List Wd} {r x : Wd} : x ∈ add1 out r ↔ x ∈ out ∨ x = r := by
  unfold add1
  split
  · rename_i h
    exact ⟨.inl, fun e => e.elim id fun e => by rw [e]; exact h⟩
  · simp
theorem addL_mem {x : Wd} : ∀ (l out : List Wd), x ∈ addL out l ↔ x ∈ out ∨ x ∈ l
  | [], out => by simp [addL]
  | r :: l, out => by
    rw [show addL out (r :: l) = addL (add1 out r) l from rfl, addL_mem l, add1_mem, List.mem_cons]
    constructor
    · rintro ((h | h) | h)
      · exact .inl h
      · exact .inr (.inl h)
      · exact .inr (.inr h)
    · rintro (h | h | h)
      · exact .inl (.inl h)
      · exact .inl (.inr h)
      · exact .inr h
theorem add1_nodup {out : List Wd} {r : Wd} (h : out.Nodup) : (add1 out r).Nodup := by
  unfold add1
  split
  · exact h
  · rename_i hm
    rw [List.nodup_append]
    refine ⟨h, by simp, fun a ha b hb => ?_⟩
    obtain rfl : b = r := by simpa using hb
    rintro rfl
    exact hm ha
theorem addL_nodup : ∀ (l out : List Wd), out.Nodup → (addL out l).Nodup
  | [], out, h => h
  | r :: l, out, h => addL_nodup l (add1 out r) (add1_nodup h)
theorem add1_get {out : List Wd} {r x : Wd} {j : Nat} (h : out[j]? = some x) : (add1 out r)[j]? = some x := by
  unfold add1
  split
  · exact h
  · rw [List.getElem?_append_left (List.getElem?_eq_some_iff.1 h).1]; exact h
theorem addL_get {x : Wd} {j : Nat} : ∀ (l out : List Wd), out[j]? = some x → (addL out l)[j]? = some x
  | [], out, h => h
  | r :: l, out, h => addL_get l (add1 out r) (add1_get h)
theorem addL_len (l out : List Wd) : out.length ≤ (addL out l).length := by
  induction l generalizing out with
  | nil => exact Nat.le_refl _
  | cons r l ih =>
    refine Nat.le_trans ?_ (ih (add1 out r))
    unfold add1
    split
    · exact Nat.le_refl _
    · rw [List.length_append]; omega
/-- the ends of the words -/
def sufs (W : List Wd) : List Wd := W.flatMap fun x => (List.range (x.length + 1)).map fun k => x.drop k
theorem sufs_iff {W : List Wd} {r : Wd} : r ∈ sufs W ↔ ∃ x t, x ∈ W ∧ x = t ++ r := by
  unfold sufs
  rw [List.mem_flatMap]
  constructor
  · rintro ⟨x, hx, h⟩
    obtain ⟨k, _, rfl⟩ := List.mem_map.1 h
    exact ⟨x, x.take k, hx, (List.take_append_drop k x).symm⟩
  · rintro ⟨x, t, hx, h⟩
    exact ⟨x, hx, List.mem_map.2 ⟨t.length, List.mem_range.2 (by rw [h, List.length_append]; omega), by rw [h, List.drop_left]⟩⟩
theorem Nxt.suf {W : List Wd} {r u : Wd} (hr : r ∈ sufs W) (h : Nxt W r u) : u ∈ sufs W := by
  obtain ⟨x, hx, e | ⟨e, _⟩⟩ := h
  · obtain ⟨y, t, hy, e2⟩ := sufs_iff.1 hr
    exact sufs_iff.2 ⟨y, t ++ x, hy, by rw [e2, e, List.append_assoc]⟩
  · exact sufs_iff.2 ⟨x, r, hx, e⟩
theorem Fst.suf {W : List Wd} {r : Wd} (h : Fst W r) : r ∈ sufs W := by
  obtain ⟨_, x, y, _, hy, e⟩ := h
  exact sufs_iff.2 ⟨y, x, hy, e⟩
/-- what a rest adds -/
def more (W : List Wd) (r : Wd) : List Wd := if r = [] then [] else nxtL W r
def resF (W : List Wd) : Nat → Nat → List Wd → List Wd
  | 0, _, out => out
  | f + 1, i, out => match out[i]? with
    | none => out
    | some r => resF W f (i + 1) (addL out (more W r))
def res (W : List Wd) : List Wd := resF W ((sufs W).length + 1) 0 (addL [] (fstL W))
def Good (W out : List Wd) : Prop := out.Nodup ∧ ∀ r ∈ out, r ∈ sufs W
theorem Good.len {W out : List Wd} (h : Good W out) : out.length ≤ (sufs W).length := sub_len2 _ _ h.1 h.2
theorem Good.more {W out : List Wd} {r : Wd} (h : Good W out) (hr : r ∈ out) : Good W (addL out (more W r)) :=
  ⟨addL_nodup _ _ h.1, fun x hx => by
    rcases (addL_mem _ _).1 hx with e | e
    · exact h.2 x e
    · unfold Sar.more at e
      split at e
      · cases e
      · exact (nxtL_iff.1 e).suf (h.2 r hr)⟩
theorem Good.one (W : List Wd) : Good W (addL [] (fstL W)) :=
  ⟨addL_nodup _ _ List.nodup_nil, fun x hx => by
    rcases (addL_mem _ _).1 hx with e | e
    · cases e
    · exact (fstL_iff.1 e).suf⟩
theorem resGo_step {W out : List Wd} {f i : Nat} {r : Wd} (h : out[i]? = some r) : resF W (f + 1) i out = resF W f (i + 1) (addL out (more W r)) := by
  rw [show resF W (f + 1) i out = (match out[i]? with | none => out | some r => resF W f (i + 1) (addL out (more W r))) from rfl, h]
theorem resGo_end {W out : List Wd} {f i : Nat} (h : out.length ≤ i) : resF W f i out = out := by
  cases f with
  | zero => rfl
  | succ f => rw [show resF W (f + 1) i out = (match out[i]? with | none => out | some r => resF W f (i + 1) (addL out (more W r))) from rfl, List.getElem?_eq_none h]
theorem resGo_closed {W : List Wd} : ∀ (f i : Nat) (out : List Wd), f + i = (sufs W).length + 1 → i ≤ out.length → Good W out →
    (∀ j r, j < i → out[j]? = some r → r ≠ [] → ∀ u, Nxt W r u → u ∈ out) →
    (∀ x ∈ out, x ∈ resF W f i out) ∧ Good W (resF W f i out) ∧ ∀ r ∈ resF W f i out, r ≠ [] → ∀ u, Nxt W r u → u ∈ resF W f i out
  | 0, i, out, hf, hi, hg, _ => by have := hg.len; omega
  | f + 1, i, out, hf, hi, hg, hc => by
    by_cases hil : i < out.length
    · have hr : out[i]? = some out[i] := List.getElem?_eq_getElem hil
      rw [resGo_step hr]
      have hlen := addL_len (more W out[i]) out
      obtain ⟨a, b, c⟩ := resGo_closed f (i + 1) (addL out (more W out[i])) (by omega) (by omega) (hg.more (List.getElem_mem hil)) fun j r hj hjr h0 u hu => by
        have hjl : j < out.length := by omega
        have hj2 : out[j]? = some out[j] := List.getElem?_eq_getElem hjl
        have e := addL_get (more W out[i]) out hj2
        rw [hjr] at e
        have e' : r = out[j] := Option.some.inj e
        subst e'
        by_cases h : j < i
        · exact (addL_mem _ _).2 (.inl (hc j _ h hj2 h0 u hu))
        · obtain rfl : j = i := by omega
          refine (addL_mem _ _).2 (.inr ?_)
          unfold Sar.more
          rw [if_neg h0]
          exact nxtL_iff.2 hu
      exact ⟨fun x hx => a x ((addL_mem _ _).2 (.inl hx)), b, c⟩
    · rw [resGo_end (by omega)]
      refine ⟨fun x hx => hx, hg, fun r hr h0 u hu => ?_⟩
      obtain ⟨j, hj, rfl⟩ := List.getElem_of_mem hr
      exact hc j _ (by omega) (List.getElem?_eq_getElem hj) h0 u hu
theorem res_closed (W : List Wd) : Closed W (res W) := by
  obtain ⟨a, _, c⟩ := resGo_closed ((sufs W).length + 1) 0 (addL [] (fstL W)) rfl (Nat.zero_le _) (Good.one W) fun j r h => by omega
  exact ⟨fun r hr => a r ((addL_mem _ _).2 (.inr (fstL_iff.2 hr))), c⟩
theorem resGo_least {W S : List Wd} (hS : Closed W S) : ∀ (f i : Nat) (out : List Wd), (∀ x ∈ out, x ∈ S) → ∀ x ∈ resF W f i out, x ∈ S
  | 0, _, _, h => h
  | f + 1, i, out, h => by
    by_cases hil : i < out.length
    · rw [resGo_step (List.getElem?_eq_getElem hil)]
      refine resGo_least hS f (i + 1) _ fun x hx => ?_
      rcases (addL_mem _ _).1 hx with e | e
      · exact h x e
      · unfold more at e
        split at e
        · cases e
        · rename_i h0
          exact hS.nxt _ (h _ (List.getElem_mem hil)) h0 x (nxtL_iff.1 e)
    · rw [resGo_end (by omega)]; exact h
theorem res_least {W S : List Wd} (hS : Closed W S) : ∀ x ∈ res W, x ∈ S := resGo_least hS _ _ _ fun x hx => by
  rcases (addL_mem _ _).1 hx with e | e
  · cases e
  · exact hS.fst x (fstL_iff.1 e)
/-- a closed list without the empty word proves that a code is decodable -/
theorem proof_ok {W S : List Wd} (hS : Closed W S) (h : [] ∉ S) : [] ∉ res W := fun e => h (res_least hS _ e)
end Go.Proofs.YtpppbkdbpbpinaaGreatDoor.Sar

/- Plain: what a list of indices spells; proofs of ambiguity. No program in sight. -/
set_option linter.unusedVariables false
namespace Go.Proofs.YtpppbkdbpbpinaaGreatDoor
/-- decodable.spells -/
def spl (xs : List ByteArray) : List Int → List UInt8 → Bool
  | [], u => u.isEmpty
  | i :: l, u => if i < 0 ∨ (xs.length : Int) ≤ i then false else if Lib.hasPrefix u (xs.getD i.toNat ⟨#[]⟩).data.toList then spl xs l (Lib.trimPrefix u (xs.getD i.toNat ⟨#[]⟩).data.toList) else false
theorem spl_out {xs : List ByteArray} {l : List Int} {k : Nat} {u : List UInt8} (h : k < l.length) (h0 : l[k] < 0 ∨ (xs.length : Int) ≤ l[k]) : spl xs (l.drop k) u = false := by
  rw [List.drop_eq_getElem_cons h, spl, if_pos h0]
theorem spl_miss {xs : List ByteArray} {l : List Int} {k : Nat} {u : List UInt8} (h : k < l.length) (h0 : Lib.hasPrefix u (xs.getD l[k].toNat ⟨#[]⟩).data.toList = false) : spl xs (l.drop k) u = false := by
  rw [List.drop_eq_getElem_cons h, spl]
  split
  · rfl
  · rw [if_neg (by rw [h0]; simp)]
theorem spl_step {xs : List ByteArray} {l : List Int} {k : Nat} {u : List UInt8} (h : k < l.length) (h0 : ¬ (l[k] < 0 ∨ (xs.length : Int) ≤ l[k])) (h1 : Lib.hasPrefix u (xs.getD l[k].toNat ⟨#[]⟩).data.toList = true) :
    spl xs (l.drop k) u = spl xs (l.drop (k + 1)) (Lib.trimPrefix u (xs.getD l[k].toNat ⟨#[]⟩).data.toList) := by
  rw [List.drop_eq_getElem_cons h, spl, if_neg h0, if_pos h1]
/-- the words as lists of letters -/
def lof (xs : List ByteArray) : List (List UInt8) := xs.map fun x => x.data.toList
theorem lof_len (xs : List ByteArray) : (lof xs).length = xs.length := by unfold lof; simp
theorem lof_getD {xs : List ByteArray} {i : Nat} (h : i < xs.length) : (lof xs).getD i [] = (xs.getD i ⟨#[]⟩).data.toList := by
  unfold lof; simp [List.getD_eq_getElem?_getD, List.getElem?_eq_getElem h]
theorem lof_get {xs : List ByteArray} {i : Nat} (h : i < xs.length) : (lof xs)[i]'(by rw [lof_len]; exact h) = xs[i].data.toList := by unfold lof; simp
theorem spl_cat {xs : List ByteArray} : ∀ {l : List Int} {u : List UInt8}, spl xs l u = true → (∀ i ∈ l, 0 ≤ i ∧ i < xs.length) ∧ Sar.cat (lof xs) (l.map Int.toNat) = u
  | [], u, h => by
    refine ⟨fun i hi => absurd hi List.not_mem_nil, ?_⟩
    unfold spl at h
    have : u = [] := by simpa using h
    rw [this]; rfl
  | i :: l, u, h => by
    unfold spl at h
    split at h
    · cases h
    · rename_i h0
      split at h
      · rename_i h1
        obtain ⟨g1, g2⟩ := spl_cat h
        have hi : i.toNat < xs.length := by omega
        refine ⟨fun j hj => ?_, ?_⟩
        · rcases List.mem_cons.1 hj with rfl | hj
          · omega
          · exact g1 j hj
        · rw [List.map_cons, Sar.cat_cons, g2, lof_getD hi, Lib.trimPrefix, if_pos h1]
          unfold Lib.hasPrefix at h1
          obtain ⟨t, rfl⟩ := List.isPrefixOf_iff_prefix.1 h1
          simp
      · cases h
/-- decodable.CheckAmbiguous, behind code.Check -/
def ambV (xs : List ByteArray) (a b : List Int) (u : List UInt8) : Bool := !decide (a = b) && spl xs a u && spl xs b u
theorem amb_rest {q : Int} {xs : List ByteArray} {a b : List Int} {u : List UInt8} (hc : cdk q xs = 0) (h : ambV xs a b u = true) : [] ∈ Sar.res (lof xs) := by
  have C := cdk_zero hc
  unfold ambV at h
  simp only [Bool.and_eq_true, Bool.not_eq_true', decide_eq_false_iff_not] at h
  obtain ⟨⟨hne, h1⟩, h2⟩ := h
  obtain ⟨a1, a2⟩ := spl_cat h1
  obtain ⟨b1, b2⟩ := spl_cat h2
  refine Sar.amb (Sar.res_closed (lof xs)) (fun x hx => ?_) (fun i j hi hj e => ?_) (a.map Int.toNat) (b.map Int.toNat) (fun i hi => ?_) (fun i hi => ?_) (fun e => hne ?_) (a2.trans b2.symm)
  · obtain ⟨y, hy, rfl⟩ := List.mem_map.1 hx
    intro h0
    exact (C.word y hy).1 (by simpa using congrArg List.length h0)
  · rw [lof_len] at hi hj
    rw [lof_getD hi, lof_getD hj] at e
    refine C.inj hi hj ?_
    have e1 : ∀ {k : Nat} (hk : k < xs.length), xs.getD k ⟨#[]⟩ = xs[k] := fun hk => by simp [List.getD_eq_getElem?_getD, List.getElem?_eq_getElem hk]
    rw [e1 hi, e1 hj] at e
    cases hx : xs[i]; cases hy : xs[j]
    rw [hx, hy] at e
    simpa using e
  · obtain ⟨z, hz, rfl⟩ := List.mem_map.1 hi
    have := a1 z hz
    rw [lof_len]; omega
  · obtain ⟨z, hz, rfl⟩ := List.mem_map.1 hi
    have := b1 z hz
    rw [lof_len]; omega
  · have key : ∀ (l m : List Int), (∀ i ∈ l, 0 ≤ i) → (∀ i ∈ m, 0 ≤ i) → l.map Int.toNat = m.map Int.toNat → l = m := by
      intro l
      induction l with
      | nil => intro m _ _ h; cases m with | nil => rfl | cons y m => simp at h
      | cons x l ih =>
        intro m hl hm h
        cases m with
        | nil => simp at h
        | cons y m =>
          simp only [List.map_cons, List.cons.injEq] at h
          have hx := hl x (by simp)
          have hy := hm y (by simp)
          rw [ih m (fun i hi => hl i (by simp [hi])) (fun i hi => hm i (by simp [hi])) h.2]
          congr 1; omega
    exact key a b (fun i hi => (a1 i hi).1) (fun i hi => (b1 i hi).1) e
end Go.Proofs.YtpppbkdbpbpinaaGreatDoor

/- slices.Equal of rows of ints. -/
set_option linter.unusedVariables false
namespace Go.Proofs.YtpppbkdbpbpinaaGreatDoor
open Go.RowKit
set_option maxRecDepth 100000 in
set_option maxHeartbeats 1000000 in
theorem slEqualI_any (xs ys : List Int) (A A' : Option Addr) (c c' : Nat) (w : World) (h1 : RowI w A xs) (h2 : RowI w A' ys) (hb : xs.length ≤ 4294967296) (hb' : ys.length ≤ 4294967296) :
    Calls Tryz.prog 22 #[.slice A xs.length c, .slice A' ys.length c'] w fun e w' => e = .returned (.bool (decide (xs = ys))) ∧ ∃ q, w' = w.drewN q := by
  by_cases hl : xs.length = ys.length
  · have H1 := hide h1
    have H2 := hide h2
    have HL := hide hl
    rw [← hl]
    have hn : (((xs.length : Int)) != (xs.length : Int)) = false := by simp
    clear h1 h2 hl
    go_enter Tryz.func22, Tryz.ntmps22
    go_wp2
    go_loopw [13] (fun i wr => ∃ k q : Nat, k ≤ xs.length ∧ i = .int .i64 k ∧ Hid (∀ j (hj : j < xs.length) (hj2 : j < ys.length), j < k → xs[j] = ys[j]) ∧ wr = w.drewN q) (fun i _ => xs.length - (intOf i).toNat)
    case atStart => exact ⟨0, 0, Nat.zero_le _, rfl, hide fun j _ _ h => absurd h (by omega), rfl⟩
    case round =>
      obtain ⟨k, q, hk, rfl, hsame, rfl⟩ := hrel
      by_cases hlt : k < xs.length
      · have hlt2 : k < ys.length := by have := HL.out; omega
        obtain ⟨b1, o1, rfl, _, hc1⟩ := H1.out (by omega)
        obtain ⟨b2, o2, rfl, _, hc2⟩ := H2.out (by omega)
        have c1 := hc1 k hlt
        have c2 := hc2 k hlt2
        obtain ⟨a, ha⟩ : ∃ a, a = xs[k] := ⟨_, rfl⟩
        obtain ⟨b, hb⟩ : ∃ b, b = ys[k] := ⟨_, rfl⟩
        rw [← ha] at c1
        rw [← hb] at c2
        have HA := hide ha
        have HBB := hide hb
        clear ha hb hc1 hc2
        have hk0 : (0 : Int) ≤ (k : Int) := by omega
        have hk1 : (k : Int) < (xs.length : Int) := by omega
        go_wp2_with fail
        go_quiet (fail)
        by_cases hab : a = b
        · have hbb : (a != b) = false := by simp [hab]
          rw [hbb]
          have HAB := hide hab
          clear hbb hab c1 c2
          go_wp2
          go_roundw
          case rel =>
            refine ⟨k + 1, q + nq, by omega, by go_num, hide fun j hj hj2 hjk => ?_, by simp⟩
            by_cases e : j < k
            · exact hsame.out j hj hj2 e
            · obtain rfl : j = k := by omega
              rw [← HA.out, ← HBB.out]; exact HAB.out
          case measure => simp [intOf]; omega
        · have hbb : (a != b) = true := by simp [hab]
          rw [hbb]
          have HAB := hide hab
          clear hbb hab c1 c2
          go_wp2
          go_ret
          refine ⟨?_, q + nq, by simp⟩
          have hne : decide (xs = ys) = false := by
            rw [decide_eq_false_iff_not]
            intro e
            subst e
            exact HAB.out (by rw [HA.out, HBB.out])
          rw [hne]; rfl
      · obtain rfl : k = xs.length := by omega
        go_wp2
        go_ret
        refine ⟨?_, q, rfl⟩
        have he : decide (xs = ys) = true := by
          rw [decide_eq_true_iff]
          exact List.ext_getElem HL.out fun j h1 h2 => hsame.out j h1 h2 h1
        rw [he]; rfl
  · have hn : (((xs.length : Int)) != (ys.length : Int)) = true := by rw [bne_iff_ne]; omega
    have he := hide (show decide (xs = ys) = false by rw [decide_eq_false_iff_not]; intro e; exact hl (by rw [e]))
    clear h1 h2 hl
    go_enter Tryz.func22, Tryz.ntmps22
    go_wp2
    go_ret
    exact ⟨by rw [he.out]; rfl, 0, rfl⟩
end Go.Proofs.YtpppbkdbpbpinaaGreatDoor

/- decodable.spells, decodable.CheckAmbiguous. -/
set_option linter.unusedVariables false
namespace Go.Proofs.YtpppbkdbpbpinaaGreatDoor
open Go.RowKit
set_option maxRecDepth 100000 in
set_option maxHeartbeats 4000000 in
theorem spells_any (q : Int) (xs : List ByteArray) (A : Option Addr) (c : Nat) (l : List Int) (D : Option Addr) (d : Nat) (s : ByteArray) (w : World) (hR : RowT w A xs) (hc : xs.length ≤ c) (hcm : c ≤ 9223372036854775807)
    (hD : RowI w D l) (hlm : l.length ≤ 4294967296) :
    Calls Tryz.prog 246 #[.agg #[.int .i64 q, .slice A xs.length c], .slice D l.length d, .string s] w fun e w' => e = .returned (.bool (spl xs l s.data.toList)) ∧ w' = w.alloc (Obj.cells #[.int .i64 q, .slice A xs.length c] 34) := by
  obtain ⟨w1, hw1⟩ : ∃ w1, w.alloc (Obj.cells #[.int .i64 q, .slice A xs.length c] 34) = w1 := ⟨_, rfl⟩
  have hB1 := (Below.refl w.heap.size w).alloc (Nat.le_refl _) (Obj.cells #[.int .i64 q, .slice A xs.length c] 34)
  rw [hw1] at hB1
  have HR := hide (hR.below hB1)
  have HD := hide (hD.below hB1)
  clear hR hD
  obtain ⟨R, hRR⟩ : ∃ R, spl xs l s.data.toList = R := ⟨_, rfl⟩
  rw [hRR]
  have HRR := hide (show R = spl xs (l.drop 0) s.data.toList from hRR.symm)
  clear hRR
  obtain ⟨B, hB⟩ : ∃ B, w.heap.size = B := ⟨_, rfl⟩
  have p1 : w1.cell? ⟨B, 1, none⟩ = some (.slice A xs.length c) := by
    have hg0 := heap_alloc_new w (Obj.cells #[.int .i64 q, .slice A xs.length c] 34)
    rw [hw1, hB] at hg0
    have := cell_of_row w1 B 1 _ _ _ hg0
    simpa using this
  have P1 := hide p1
  have HW1 := hide hw1
  clear p1 hw1 hB1
  go_enter Tryz.func246, Tryz.ntmps246
  go_wp2
  go_loopg [13, 2] l.length (fun gk iv sv wr => ∃ (k : Nat) (s : ByteArray), gk = l.length - k ∧ iv = .int .i64 k ∧ sv = .string s ∧ k ≤ l.length ∧ Hid (R = spl xs (l.drop k) s.data.toList) ∧ wr = w1)
  case atStart => exact ⟨0, s, rfl, rfl, rfl, Nat.zero_le _, HRR, HW1.out⟩
  case round =>
    clear s HRR
    obtain ⟨k, s, hgk, rfl, rfl, hk, HK, rfl⟩ := hrel
    have p1 := P1.out
    by_cases hlt : k < l.length
    · obtain ⟨b, o, rfl, hb, hcell⟩ := HD.out (by omega)
      have c1 := hcell k hlt
      obtain ⟨x, hx⟩ : ∃ x, x = l[k] := ⟨_, rfl⟩
      rw [← hx] at c1
      have hk0 : (0 : Int) ≤ (k : Int) := by omega
      have hk1 : (k : Int) < (l.length : Int) := by omega
      have HX := hide hx
      clear hcell hx
      by_cases h0 : x < 0
      · have HV := hide (show R = false by rw [HK.out, spl_out hlt (by rw [← HX.out]; exact Or.inl h0)])
        go_wp2
        go_ret
        exact ⟨by rw [HV.out]; rfl, HW1.out.symm⟩
      by_cases h1 : (xs.length : Int) ≤ x
      · have HV := hide (show R = false by rw [HK.out, spl_out hlt (by rw [← HX.out]; exact Or.inr h1)])
        have h2 : decide ((xs.length : Int) ≤ x) = true := decide_eq_true h1
        go_wp2
        go_ret
        exact ⟨by rw [HV.out]; rfl, HW1.out.symm⟩
      obtain ⟨n, hn⟩ : ∃ n : Nat, x = n := ⟨x.toNat, by omega⟩
      subst hn
      have hnl : n < xs.length := by omega
      obtain ⟨b', o', rfl, hb', hcell'⟩ := HR.out (by omega)
      have c2 := hcell' n hnl
      obtain ⟨y, hy⟩ : ∃ y, y = xs[n] := ⟨_, rfl⟩
      rw [← hy] at c2
      have hy2 : xs.getD l[k].toNat ⟨#[]⟩ = y := by
        rw [← HX.out, hy]; simp [List.getD_eq_getElem?_getD, List.getElem?_eq_getElem hnl]
      have hn1 : (n : Int) < (xs.length : Int) := by omega
      have hn0 : (0 : Int) ≤ (n : Int) := by omega
      have HM := hide (fun h => spl_miss (xs := xs) (u := s.data.toList) hlt h)
      have HS := hide (fun h => spl_step (xs := xs) (u := s.data.toList) hlt (by rw [← HX.out]; omega) h)
      rw [hy2] at HM HS
      have HC := hide (fun W => strings_CutPrefix s y W)
      clear hcell' hy hy2
      by_cases h2 : Lib.hasPrefix s.data.toList y.data.toList = true
      · have HN := hide (show R = spl xs (l.drop (k + 1)) (⟨(Lib.trimPrefix s.data.toList y.data.toList).toArray⟩ : ByteArray).data.toList by rw [HK.out]; exact HS.out h2)
        rw [h2] at HC
        generalize (⟨(Lib.trimPrefix s.data.toList y.data.toList).toArray⟩ : ByteArray) = s' at HC HN
        clear h2 HS HM
        go_wp2_with (go_at_call 237; refine (HC.out _).mono ?_; rintro e w' ⟨rfl, rfl⟩)
        go_roundg (l.length - (k + 1))
        case measure => omega
        case rel => exact ⟨k + 1, s', rfl, by go_num, rfl, hlt, HN, rfl⟩
      · have h3 : Lib.hasPrefix s.data.toList y.data.toList = false := by simpa using h2
        have HV := hide (show R = false by rw [HK.out]; exact HM.out h3)
        rw [h3] at HC
        clear h2 h3 HS HM
        go_wp2_with (go_at_call 237; refine (HC.out _).mono ?_; rintro e w' ⟨rfl, rfl⟩)
        go_ret
        exact ⟨by rw [HV.out]; rfl, HW1.out.symm⟩
    · obtain rfl : k = l.length := by omega
      have HV := hide (show R = s.toList.isEmpty by rw [HK.out, List.drop_length, Lib.toList_data]; unfold spl; rfl)
      go_wp2
      go_ret
      exact ⟨by rw [HV.out]; rfl, HW1.out.symm⟩
/-- decodable.CheckAmbiguous -/
def cka (q : Int) (xs : List ByteArray) (a b : List Int) (u : List UInt8) : Int := if cdk q xs ≠ 0 then 1 else if ambV xs a b u then 0 else 23
set_option maxRecDepth 100000 in
set_option maxHeartbeats 4000000 in
theorem checkAmb_any (q : Int) (xs : List ByteArray) (A : Option Addr) (c : Nat) (a b : List Int) (D E : Option Addr) (d e : Nat) (s : ByteArray) (w : World) (hR : RowT w A xs) (hc : xs.length ≤ c) (hcm : c ≤ 9223372036854775807)
    (hD : RowI w D a) (hE : RowI w E b) (ha : a.length ≤ 4294967296) (hb : b.length ≤ 4294967296) :
    Calls Tryz.prog 177 #[.agg #[.int .i64 q, .slice A xs.length c], .agg #[.string s, .slice D a.length d, .slice E b.length e]] w fun ed w' => ed = .returned (.int .i64 (cka q xs a b s.data.toList)) ∧ Below w.heap.size w w' := by
  obtain ⟨R, hRR⟩ : ∃ R, cka q xs a b s.data.toList = R := ⟨_, rfl⟩
  rw [hRR]
  obtain ⟨w1, hw1⟩ : ∃ w1, (w.alloc (Obj.cells #[.int .i64 q, .slice A xs.length c] 34)).alloc (Obj.cells #[.string s, .slice D a.length d, .slice E b.length e] 85) = w1 := ⟨_, rfl⟩
  have hB1 := ((Below.refl w.heap.size w).alloc (Nat.le_refl _) (Obj.cells #[.int .i64 q, .slice A xs.length c] 34)).alloc (by simp) (Obj.cells #[.string s, .slice D a.length d, .slice E b.length e] 85)
  rw [hw1] at hB1
  have hR1 := hR.below hB1
  have hD1 := hD.below hB1
  have hE1 := hE.below hB1
  have HC := hide (ccheck_any q xs A c w1 hR1 hc hcm)
  have g0 : w1.heap[w.heap.size]? = some (.cells #[.int .i64 q, .slice A xs.length c] 34 (0, 0)) := by
    rw [← hw1, heap_alloc_old _ _ (by simp)]; exact heap_alloc_new w _
  have g1 : w1.heap[w.heap.size + 1]? = some (.cells #[.string s, .slice D a.length d, .slice E b.length e] 85 (0, 0)) := by
    rw [← hw1]
    have := heap_alloc_new (w.alloc (Obj.cells #[.int .i64 q, .slice A xs.length c] 34)) (Obj.cells #[.string s, .slice D a.length d, .slice E b.length e] 85)
    simpa using this
  have hs1 : w1.heap.size = w.heap.size + 1 + 1 := by rw [← hw1]; simp
  by_cases h0 : cdk q xs = 0
  · have hn : (cdk q xs != 0) = false := by rw [bne_eq_false_iff_eq]; exact h0
    have hV : R = if ambV xs a b s.data.toList then 0 else 23 := by rw [← hRR, cka, if_neg (by simpa using h0)]
    have HB1 := hide hB1
    have HW1 := hide hw1
    have HS1 := hide hs1
    have HX := hide (fun w' (hb' : Below w1.heap.size w1 w') =>
      show RowT w' A xs ∧ RowI w' D a ∧ RowI w' E b ∧ w'.cell? ⟨w.heap.size, 0, none⟩ = some (.int .i64 q) ∧ w'.cell? ⟨w.heap.size, 1, none⟩ = some (.slice A xs.length c) ∧
        w'.cell? ⟨w.heap.size + 1, 0, none⟩ = some (.string s) ∧ w'.cell? ⟨w.heap.size + 1, 1, none⟩ = some (.slice D a.length d) ∧ w'.cell? ⟨w.heap.size + 1, 2, none⟩ = some (.slice E b.length e) by
      have k0 := (hb'.block w.heap.size (by omega)).trans g0
      have k1 := (hb'.block (w.heap.size + 1) (by omega)).trans g1
      refine ⟨hR1.below hb', hD1.below hb', hE1.below hb', ?_, ?_, ?_, ?_, ?_⟩
      · rw [cell_of_row w' _ 0 _ _ _ k0]; rfl
      · rw [cell_of_row w' _ 1 _ _ _ k0]; rfl
      · rw [cell_of_row w' _ 0 _ _ _ k1]; rfl
      · rw [cell_of_row w' _ 1 _ _ _ k1]; rfl
      · rw [cell_of_row w' _ 2 _ _ _ k1]; rfl)
    have HE := hide (fun W h1 h2 => slEqualI_any a b D E d e W h1 h2 ha hb)
    have H1 := hide (fun W h1 h2 => spells_any q xs A c a D d s W h1 hc hcm h2 ha)
    have H2 := hide (fun W h1 h2 => spells_any q xs A c b E e s W h1 hc hcm h2 hb)
    unfold ambV at hV
    clear hRR hB1 hw1 hR1 hD1 hE1 hR hD hE g0 g1 hs1
    generalize cdk q xs = z at HC hn h0
    generalize spl xs a s.data.toList = ra at H1 hV
    generalize spl xs b s.data.toList = rb at H2 hV
    generalize decide (a = b) = rc at HE hV
    clear h0
    have HV := hide hV
    clear hV
    go_enter Tryz.func177, Tryz.ntmps177
    go_wp2_with (go_at_call 82; rw [HW1.out]; refine HC.out.mono ?_; rintro e w' ⟨rfl, hb'⟩; obtain ⟨r1, r2, r3, c0, c1, c2, c3, c4⟩ := HX.out w' hb'; have HB' := hide hb'; have HR1 := hide r1; have HR2 := hide r2; have HR3 := hide r3; clear hb' r1 r2 r3)
    refine (HE.out w' HR2.out HR3.out).mono ?_
    rintro e1 w2 ⟨rfl, n, rfl⟩
    have hB2 : Below w'.heap.size w' (w'.drewN n) := belowN (Below.refl _ _) n
    have G1 := hide (H1.out (w'.drewN n) (HR1.out.below hB2) (HR2.out.below hB2))
    have hB3 := hB2.alloc (Nat.le_refl _) (Obj.cells #[.int .i64 q, .slice A xs.length c] 34)
    have G2 := hide (fun w3 (h3 : w3 = (w'.drewN n).alloc (Obj.cells #[.int .i64 q, .slice A xs.length c] 34)) => H2.out w3 (h3 ▸ HR1.out.below hB3) (h3 ▸ HR3.out.below hB3))
    have HX3 := hide (fun w3 (h3 : w3 = (w'.drewN n).alloc (Obj.cells #[.int .i64 q, .slice A xs.length c] 34)) => HX.out w3 (HB'.out.trans ((h3 ▸ hB3).mono HB'.out.size)))
    have HB3 := hide hB3
    have HB4 := hide (hB3.alloc (by simp) (Obj.cells #[.int .i64 q, .slice A xs.length c] 34))
    have HB2 := hide hB2
    clear hB2 hB3
    have hw1w : w.heap.size ≤ w1.heap.size := HB1.out.size
    have hw1' : w1.heap.size ≤ w'.heap.size := HB'.out.size
    have HF := hide (fun W (h : Below w'.heap.size w' W) => HB1.out.trans ((HB'.out.mono hw1w).trans (h.mono (Nat.le_trans hw1w hw1'))))
    cases rc
    · cases ra
      · have HV := hide (show R = 23 by rw [HV.out]; rfl)
        go_wp2_with (go_at_call 246; refine G1.out.mono ?_; rintro e w3 ⟨rfl, rfl⟩)
        go_ret
        exact ⟨by rw [HV.out]; rfl, HF.out _ HB3.out⟩
      · cases rb
        · have HV := hide (show R = 23 by rw [HV.out]; rfl)
          go_wp2_with (first | (go_at_call 246; with_reducible (refine G1.out.mono ?_); rintro e w3 ⟨rfl, h3⟩; obtain ⟨-, -, -, d0, d1, d2, d3, d4⟩ := HX3.out w3 h3; have H3 := hide h3; clear h3) | (go_at_call 246; with_reducible (refine (G2.out w3 H3.out).mono ?_); rintro e w4 ⟨rfl, h4⟩; have H4 := hide h4; clear h4))
          go_ret
          exact ⟨by rw [HV.out]; rfl, HF.out _ (by rw [H4.out, H3.out]; exact HB4.out)⟩
        · have HV := hide (show R = 0 by rw [HV.out]; rfl)
          go_wp2_with (first | (go_at_call 246; with_reducible (refine G1.out.mono ?_); rintro e w3 ⟨rfl, h3⟩; obtain ⟨-, -, -, d0, d1, d2, d3, d4⟩ := HX3.out w3 h3; have H3 := hide h3; clear h3) | (go_at_call 246; with_reducible (refine (G2.out w3 H3.out).mono ?_); rintro e w4 ⟨rfl, h4⟩; have H4 := hide h4; clear h4))
          go_ret
          exact ⟨by rw [HV.out]; rfl, HF.out _ (by rw [H4.out, H3.out]; exact HB4.out)⟩
    · have HV := hide (show R = 23 by rw [HV.out]; rfl)
      go_wp2
      go_ret
      exact ⟨by rw [HV.out]; rfl, HF.out _ HB2.out⟩
  · have hn : (cdk q xs != 0) = true := by rw [bne_iff_ne]; exact h0
    have HV := hide (show R = 1 by rw [← hRR, cka, if_pos h0])
    have HB1 := hide hB1
    have HW1 := hide hw1
    clear hRR hB1 hw1 hR1 hD1 hE1 hR hD hE g0 g1 hs1
    generalize cdk q xs = z at HC hn h0
    clear h0
    go_enter Tryz.func177, Tryz.ntmps177
    go_wp2_with (go_at_call 82; rw [HW1.out]; refine HC.out.mono ?_; rintro e w' ⟨rfl, hb'⟩; have HB' := hide hb'; clear hb')
    go_ret
    exact ⟨by rw [HV.out]; rfl, HB1.out.trans (HB'.out.mono (by have := HB1.out.size; omega))⟩
end Go.Proofs.YtpppbkdbpbpinaaGreatDoor

/- slices.Equal and EqualFunc with an empty second list; checker.lists, checker.graphs against what is empty. -/
set_option linter.unusedVariables false
namespace Go.Proofs.YtpppbkdbpbpinaaGreatDoor
open Go.RowKit
set_option maxHeartbeats 1000000 in
theorem eqEdge_nil (A : Option Addr) (n c : Nat) (w : World) :
    Calls Tryz.prog 185 #[.slice A n c, .slice none 0 0] w fun e w' => e = .returned (.bool (decide (n = 0))) ∧ w' = w := by
  by_cases h : n = 0
  · subst h
    go_enter Tryz.func185, Tryz.ntmps185
    go_wp2
    go_loopg [13] 0 (fun gk iv wr => gk = 0 ∧ iv = .int .i64 0 ∧ wr = w)
    case atStart => exact ⟨rfl, rfl, rfl⟩
    case round =>
      obtain ⟨rfl, rfl, rfl⟩ := hrel
      go_wp2
      go_ret
      exact ⟨rfl, rfl⟩
  · have hb : ((n : Int) != 0) = true := by rw [bne_iff_ne]; omega
    rw [decide_eq_false h]
    have H := hide h
    clear h
    go_enter Tryz.func185, Tryz.ntmps185
    go_wp2
    go_ret
    exact ⟨rfl, rfl⟩
set_option maxHeartbeats 1000000 in
theorem eqStr_nil (A : Option Addr) (n c : Nat) (w : World) :
    Calls Tryz.prog 21 #[.slice A n c, .slice none 0 0] w fun e w' => e = .returned (.bool (decide (n = 0))) ∧ w' = w := by
  by_cases h : n = 0
  · subst h
    go_enter Tryz.func21, Tryz.ntmps21
    go_wp2
    go_loopg [13] 0 (fun gk iv wr => gk = 0 ∧ iv = .int .i64 0 ∧ wr = w)
    case atStart => exact ⟨rfl, rfl, rfl⟩
    case round =>
      obtain ⟨rfl, rfl, rfl⟩ := hrel
      go_wp2
      go_ret
      exact ⟨rfl, rfl⟩
  · have hb : ((n : Int) != 0) = true := by rw [bne_iff_ne]; omega
    rw [decide_eq_false h]
    have H := hide h
    clear h
    go_enter Tryz.func21, Tryz.ntmps21
    go_wp2
    go_ret
    exact ⟨rfl, rfl⟩
set_option maxHeartbeats 1000000 in
theorem eqInt_nil (A : Option Addr) (n c : Nat) (w : World) :
    Calls Tryz.prog 22 #[.slice A n c, .slice none 0 0] w fun e w' => e = .returned (.bool (decide (n = 0))) ∧ w' = w := by
  by_cases h : n = 0
  · subst h
    go_enter Tryz.func22, Tryz.ntmps22
    go_wp2
    go_loopg [13] 0 (fun gk iv wr => gk = 0 ∧ iv = .int .i64 0 ∧ wr = w)
    case atStart => exact ⟨rfl, rfl, rfl⟩
    case round =>
      obtain ⟨rfl, rfl, rfl⟩ := hrel
      go_wp2
      go_ret
      exact ⟨rfl, rfl⟩
  · have hb : ((n : Int) != 0) = true := by rw [bne_iff_ne]; omega
    rw [decide_eq_false h]
    have H := hide h
    clear h
    go_enter Tryz.func22, Tryz.ntmps22
    go_wp2
    go_ret
    exact ⟨rfl, rfl⟩
set_option maxHeartbeats 1000000 in
theorem eqApiInt_nil (A : Option Addr) (n c : Nat) (w : World) :
    Calls Tryz.prog 111 #[.slice A n c, .slice none 0 0] w fun e w' => e = .returned (.bool (decide (n = 0))) ∧ w' = w := by
  by_cases h : n = 0
  · subst h
    go_enter Tryz.func111, Tryz.ntmps111
    go_wp2
    go_loopg [13] 0 (fun gk iv wr => gk = 0 ∧ iv = .int .i64 0 ∧ wr = w)
    case atStart => exact ⟨rfl, rfl, rfl⟩
    case round =>
      obtain ⟨rfl, rfl, rfl⟩ := hrel
      go_wp2
      go_ret
      exact ⟨rfl, rfl⟩
  · have hb : ((n : Int) != 0) = true := by rw [bne_iff_ne]; omega
    rw [decide_eq_false h]
    have H := hide h
    clear h
    go_enter Tryz.func111, Tryz.ntmps111
    go_wp2
    go_ret
    exact ⟨rfl, rfl⟩
set_option maxHeartbeats 1000000 in
theorem eqfInts_nil (A : Option Addr) (n c : Nat) (w : World) :
    Calls Tryz.prog 186 #[.slice A n c, .slice none 0 0, .func (.func 22) #[] #[]] w fun e w' => e = .returned (.bool (decide (n = 0))) ∧ w' = w := by
  by_cases h : n = 0
  · subst h
    go_enter Tryz.func186, Tryz.ntmps186
    go_wp2
    go_loopg [17] 0 (fun gk iv wr => gk = 0 ∧ iv = .int .i64 0 ∧ wr = w)
    case atStart => exact ⟨rfl, rfl, rfl⟩
    case round =>
      obtain ⟨rfl, rfl, rfl⟩ := hrel
      go_wp2
      go_ret
      exact ⟨rfl, rfl⟩
  · have hb : ((n : Int) != 0) = true := by rw [bne_iff_ne]; omega
    rw [decide_eq_false h]
    have H := hide h
    clear h
    go_enter Tryz.func186, Tryz.ntmps186
    go_wp2
    go_ret
    exact ⟨rfl, rfl⟩
set_option maxHeartbeats 1000000 in
theorem eqfSplits_nil (A : Option Addr) (n c : Nat) (w : World) :
    Calls Tryz.prog 109 #[.slice A n c, .slice none 0 0, .func (.func 110) #[] #[]] w fun e w' => e = .returned (.bool (decide (n = 0))) ∧ w' = w := by
  by_cases h : n = 0
  · subst h
    go_enter Tryz.func109, Tryz.ntmps109
    go_wp2
    go_loopg [17] 0 (fun gk iv wr => gk = 0 ∧ iv = .int .i64 0 ∧ wr = w)
    case atStart => exact ⟨rfl, rfl, rfl⟩
    case round =>
      obtain ⟨rfl, rfl, rfl⟩ := hrel
      go_wp2
      go_ret
      exact ⟨rfl, rfl⟩
  · have hb : ((n : Int) != 0) = true := by rw [bne_iff_ne]; omega
    rw [decide_eq_false h]
    have H := hide h
    clear h
    go_enter Tryz.func109, Tryz.ntmps109
    go_wp2
    go_ret
    exact ⟨rfl, rfl⟩
set_option maxHeartbeats 1000000 in
theorem eqfApiInts_nil (A : Option Addr) (n c : Nat) (w : World) :
    Calls Tryz.prog 189 #[.slice A n c, .slice none 0 0, .func (.func 111) #[] #[]] w fun e w' => e = .returned (.bool (decide (n = 0))) ∧ w' = w := by
  by_cases h : n = 0
  · subst h
    go_enter Tryz.func189, Tryz.ntmps189
    go_wp2
    go_loopg [17] 0 (fun gk iv wr => gk = 0 ∧ iv = .int .i64 0 ∧ wr = w)
    case atStart => exact ⟨rfl, rfl, rfl⟩
    case round =>
      obtain ⟨rfl, rfl, rfl⟩ := hrel
      go_wp2
      go_ret
      exact ⟨rfl, rfl⟩
  · have hb : ((n : Int) != 0) = true := by rw [bne_iff_ne]; omega
    rw [decide_eq_false h]
    have H := hide h
    clear h
    go_enter Tryz.func189, Tryz.ntmps189
    go_wp2
    go_ret
    exact ⟨rfl, rfl⟩
theorem listsI_nil (A : Option Addr) (n c : Nat) (w : World) :
    Calls Tryz.prog 108 #[.slice A n c, .slice none 0 0] w fun e w' => e = .returned (.bool (decide (n = 0))) ∧ w' = w := by
  go_enter Tryz.func108, Tryz.ntmps108
  go_wp2_with (go_at_call 186; refine (eqfInts_nil A n c _).mono ?_; rintro e w' ⟨rfl, rfl⟩)
  go_ret
  exact ⟨rfl, rfl⟩
theorem listsA_nil (A : Option Addr) (n c : Nat) (w : World) :
    Calls Tryz.prog 112 #[.slice A n c, .slice none 0 0] w fun e w' => e = .returned (.bool (decide (n = 0))) ∧ w' = w := by
  go_enter Tryz.func112, Tryz.ntmps112
  go_wp2_with (go_at_call 189; refine (eqfApiInts_nil A n c _).mono ?_; rintro e w' ⟨rfl, rfl⟩)
  go_ret
  exact ⟨rfl, rfl⟩
end Go.Proofs.YtpppbkdbpbpinaaGreatDoor

/- checker.graphs, checker.Same against an empty certificate. -/
set_option linter.unusedVariables false
namespace Go.Proofs.YtpppbkdbpbpinaaGreatDoor
open Go.RowKit
set_option maxHeartbeats 1000000 in
theorem graphs_nil (l s : Int) (A : Option Addr) (n c : Nat) (w : World) :
    Calls Tryz.prog 107 #[.agg #[.int .i64 l, .int .i64 s, .slice A n c], .agg #[.int .i64 0, .int .i64 0, .slice none 0 0]] w fun e w' => e = .returned (.bool ((l == 0) && (s == 0) && decide (n = 0))) ∧
      w' = (w.alloc (Obj.cells #[.int .i64 l, .int .i64 s, .slice A n c] 32)).alloc (Obj.cells #[.int .i64 0, .int .i64 0, .slice none 0 0] 32) := by
  have HE := hide (fun W => eqEdge_nil A n c W)
  generalize decide (n = 0) = b at HE
  by_cases h1 : l = 0
  · have hb : (l == 0) = true := by rw [beq_iff_eq]; exact h1
    rw [hb]
    by_cases h2 : s = 0
    · have hb2 : (s == 0) = true := by rw [beq_iff_eq]; exact h2
      rw [hb2]
      clear h1 h2
      go_enter Tryz.func107, Tryz.ntmps107
      go_wp2_with (go_at_call 185; refine (HE.out _).mono ?_; rintro e w' ⟨rfl, rfl⟩)
      go_ret
      exact ⟨rfl, rfl⟩
    · have hb2 : (s == 0) = false := by rw [beq_eq_false_iff_ne]; exact h2
      rw [hb2]
      clear h1 h2
      go_enter Tryz.func107, Tryz.ntmps107
      go_wp2
      go_ret
      exact ⟨rfl, rfl⟩
  · have hb : (l == 0) = false := by rw [beq_eq_false_iff_ne]; exact h1
    rw [hb]
    clear h1
    go_enter Tryz.func107, Tryz.ntmps107
    go_wp2
    go_ret
    exact ⟨rfl, rfl⟩
/-- a slice's value -/
structure Sl where
  A : Option Addr
  n : Nat
  c : Nat
def Sl.v (s : Sl) : Value := .slice s.A s.n s.c
/-- a certificate's value -/
structure Crt where
  kind : Int
  gl : Int
  gs : Int
  ge : Sl
  cl : Int
  cw : Sl
  ml : Int
  mn : Sl
  pl : Int
  ps : Int
  pe : Sl
  pw : Sl
  pi : Int
  pr : Sl
  nu : Sl
  ix : Sl
  wo : Sl
  ro : Sl
  ta : Sl
def Crt.cells (x : Crt) : Array Value := #[.int .i64 x.kind, .int .i64 x.gl, .int .i64 x.gs, x.ge.v, .int .i64 x.cl, x.cw.v, .int .i64 x.ml, x.mn.v, .int .i64 x.pl, .int .i64 x.ps, x.pe.v, x.pw.v, .int .i64 x.pi, x.pr.v, x.nu.v, x.ix.v, x.wo.v, x.ro.v, x.ta.v]
def Sl.nil : Sl := ⟨none, 0, 0⟩
def Crt.nil (k : Int) : Crt := ⟨k, 0, 0, .nil, 0, .nil, 0, .nil, 0, 0, .nil, .nil, 0, .nil, .nil, .nil, .nil, .nil, .nil⟩
def Crt.none (x : Crt) (k : Int) : Bool := (x.kind == k) && ((x.gl == 0) && (x.gs == 0) && decide (x.ge.n = 0)) && (x.cl == 0) && decide (x.cw.n = 0) && (x.ml == 0) && decide (x.mn.n = 0) && ((x.pl == 0) && (x.ps == 0) && decide (x.pe.n = 0)) && decide (x.pw.n = 0) && (x.pi == 0) && decide (x.pr.n = 0) && decide (x.nu.n = 0) && decide (x.ix.n = 0) && decide (x.wo.n = 0) && decide (x.ro.n = 0) && decide (x.ta.n = 0)
end Go.Proofs.YtpppbkdbpbpinaaGreatDoor

/- grooveref07.SameInts, Same; grooveref59.sameRows: any two rows; the other comparisons of grooveref59 at empty lists. -/
set_option linter.unusedVariables false
namespace Go.Proofs.YtpppbkdbpbpinaaGreatDoor
open Go.RowKit
set_option maxRecDepth 100000 in
set_option maxHeartbeats 1000000 in
theorem rI07_any (xs ys : List Int) (A A' : Option Addr) (c c' : Nat) (w : World) (h1 : RowI w A xs) (h2 : RowI w A' ys) (hb : xs.length ≤ 9223372036854775807) (hb' : ys.length ≤ 9223372036854775807) :
    Calls Tryz.prog 37 #[.slice A xs.length c, .slice A' ys.length c'] w fun e w' => e = .returned (.bool (decide (xs = ys))) ∧ ∃ q, w' = w.drewN q := by
  by_cases hl : xs.length = ys.length
  · have H1 := hide h1
    have H2 := hide h2
    have HL := hide hl
    rw [← hl]
    have hn : (((xs.length : Int)) != (xs.length : Int)) = false := by simp
    clear h1 h2 hl
    go_enter Tryz.func37, Tryz.ntmps37
    go_wp2
    go_loopw [5] (fun i wr => ∃ k q : Nat, k ≤ xs.length ∧ i = .int .i64 k ∧ Hid (∀ j (hj : j < xs.length) (hj2 : j < ys.length), j < k → xs[j] = ys[j]) ∧ wr = w.drewN q) (fun i _ => xs.length - (intOf i).toNat)
    case atStart => exact ⟨0, 0, Nat.zero_le _, rfl, hide fun j _ _ h => absurd h (by omega), rfl⟩
    case round =>
      obtain ⟨k, q, hk, rfl, hsame, rfl⟩ := hrel
      by_cases hlt : k < xs.length
      · have hlt2 : k < ys.length := by have := HL.out; omega
        obtain ⟨b1, o1, rfl, _, hc1⟩ := H1.out (by omega)
        obtain ⟨b2, o2, rfl, _, hc2⟩ := H2.out (by omega)
        have c1 := hc1 k hlt
        have c2 := hc2 k hlt2
        obtain ⟨a, ha⟩ : ∃ a, a = xs[k] := ⟨_, rfl⟩
        obtain ⟨b, hb⟩ : ∃ b, b = ys[k] := ⟨_, rfl⟩
        rw [← ha] at c1
        rw [← hb] at c2
        have HA := hide ha
        have HBB := hide hb
        clear ha hb hc1 hc2
        have hk0 : (0 : Int) ≤ (k : Int) := by omega
        have hk1 : (k : Int) < (xs.length : Int) := by omega
        go_wp2_with fail
        go_quiet (fail)
        by_cases hab : a = b
        · have hbb : (a != b) = false := by simp [hab]
          rw [hbb]
          have HAB := hide hab
          clear hbb hab c1 c2
          go_wp2
          go_roundw
          case rel =>
            refine ⟨k + 1, q + nq, by omega, by go_num, hide fun j hj hj2 hjk => ?_, by simp⟩
            by_cases e : j < k
            · exact hsame.out j hj hj2 e
            · obtain rfl : j = k := by omega
              rw [← HA.out, ← HBB.out]; exact HAB.out
          case measure => simp [intOf]; omega
        · have hbb : (a != b) = true := by simp [hab]
          rw [hbb]
          have HAB := hide hab
          clear hbb hab c1 c2
          go_wp2
          go_ret
          refine ⟨?_, q + nq, by simp⟩
          have hne : decide (xs = ys) = false := by
            rw [decide_eq_false_iff_not]
            intro e
            subst e
            exact HAB.out (by rw [HA.out, HBB.out])
          rw [hne]; rfl
      · obtain rfl : k = xs.length := by omega
        go_wp2
        go_ret
        refine ⟨?_, q, rfl⟩
        have he : decide (xs = ys) = true := by
          rw [decide_eq_true_iff]
          exact List.ext_getElem HL.out fun j h1 h2 => hsame.out j h1 h2 h1
        rw [he]; rfl
  · have hn : (((xs.length : Int)) != (ys.length : Int)) = true := by rw [bne_iff_ne]; omega
    have he := hide (show decide (xs = ys) = false by rw [decide_eq_false_iff_not]; intro e; exact hl (by rw [e]))
    clear h1 h2 hl
    go_enter Tryz.func37, Tryz.ntmps37
    go_wp2
    go_ret
    exact ⟨by rw [he.out]; rfl, 0, rfl⟩
theorem quiet_mo {P : Program} {f : FuncId} {args : Array Value} {w : World} {q n : Nat} {v : Value}
    (h : Calls P f args (w.drewN (q + n)) fun e w' => e = .returned v ∧ ∃ m, w' = (w.drewN (q + n)).drewN m) : Calls P f args (w.drewN (q + n)) fun e w'' => e = .returned v ∧ ∃ m, w'' = w.drewN (q + m) :=
  h.mono fun _ _ ⟨he, m, hm⟩ => ⟨he, n + m, by rw [hm]; simp [Nat.add_assoc]⟩
set_option maxRecDepth 100000 in
set_option maxHeartbeats 1000000 in
theorem r59Rows_any (xs ys : List (List Int)) (A A' : Option Addr) (c c' : Nat) (w : World) (h1 : RowD w A xs) (h2 : RowD w A' ys) (hb : xs.length ≤ 9223372036854775807) (hb' : ys.length ≤ 9223372036854775807) (hx : ∀ x ∈ xs, x.length ≤ 9223372036854775807) (hy : ∀ y ∈ ys, y.length ≤ 9223372036854775807) :
    Calls Tryz.prog 33 #[.slice A xs.length c, .slice A' ys.length c'] w fun e w' => e = .returned (.bool (decide (xs = ys))) ∧ ∃ q, w' = w.drewN q := by
  by_cases hl : xs.length = ys.length
  · have H1 := hide h1
    have H2 := hide h2
    have HX := hide hx
    have HY := hide hy
    have HL := hide hl
    rw [← hl]
    have hn : (((xs.length : Int)) != (xs.length : Int)) = false := by simp
    clear h1 h2 hl hx hy
    go_enter Tryz.func33, Tryz.ntmps33
    go_wp2
    go_loopw [5] (fun i wr => ∃ k q : Nat, k ≤ xs.length ∧ i = .int .i64 k ∧ Hid (∀ j (hj : j < xs.length) (hj2 : j < ys.length), j < k → xs[j] = ys[j]) ∧ wr = w.drewN q) (fun i _ => xs.length - (intOf i).toNat)
    case atStart => exact ⟨0, 0, Nat.zero_le _, rfl, hide fun j _ _ h => absurd h (by omega), rfl⟩
    case round =>
      obtain ⟨k, q, hk, rfl, hsame, rfl⟩ := hrel
      by_cases hlt : k < xs.length
      · have hlt2 : k < ys.length := by have := HL.out; omega
        obtain ⟨b1, o1, rfl, _, hc1⟩ := H1.out (by omega)
        obtain ⟨b2, o2, rfl, _, hc2⟩ := H2.out (by omega)
        obtain ⟨D1, d1, c1, r1⟩ := hc1 k hlt
        obtain ⟨D2, d2, c2, r2⟩ := hc2 k hlt2
        have l1 := HX.out _ (List.getElem_mem hlt)
        have l2 := HY.out _ (List.getElem_mem hlt2)
        obtain ⟨a, ha⟩ : ∃ a, a = xs[k] := ⟨_, rfl⟩
        obtain ⟨b, hb⟩ : ∃ b, b = ys[k] := ⟨_, rfl⟩
        rw [← ha] at c1 r1 l1
        rw [← hb] at c2 r2 l2
        have HA := hide ha
        have HBB := hide hb
        have HS := fun m => (rI07_any a b D1 D2 d1 d2 (w.drewN (q + m)) r1 r2 l1 l2)
        clear ha hb hc1 hc2 r1 r2 l1 l2
        have hk0 : (0 : Int) ≤ (k : Int) := by omega
        have hk1 : (k : Int) < (xs.length : Int) := by omega
        cases hab : decide (a = b) with
        | true =>
          rw [hab] at HS
          have HSM := hide HS
          have HAB := hide (of_decide_eq_true hab)
          clear HS hab
          go_wp2_with fail
          go_quiet ((go_at_call 37; exact quiet_mo (HSM.out _)))
          clear c1 c2
          go_wp2
          go_roundw
          case rel =>
            refine ⟨k + 1, q + nq, by omega, by go_num, hide fun j hj hj2 hjk => ?_, by simp⟩
            by_cases e : j < k
            · exact hsame.out j hj hj2 e
            · obtain rfl : j = k := by omega
              rw [← HA.out, ← HBB.out]; exact HAB.out
          case measure => simp [intOf]; omega
        | false =>
          rw [hab] at HS
          have HSM := hide HS
          have HAB := hide (of_decide_eq_false hab)
          clear HS hab
          go_wp2_with fail
          go_quiet ((go_at_call 37; exact quiet_mo (HSM.out _)))
          clear c1 c2
          go_wp2
          go_ret
          refine ⟨?_, q + nq, by simp⟩
          have hne : decide (xs = ys) = false := by
            rw [decide_eq_false_iff_not]
            intro e
            subst e
            exact HAB.out (by rw [HA.out, HBB.out])
          rw [hne]; rfl
      · obtain rfl : k = xs.length := by omega
        go_wp2
        go_ret
        refine ⟨?_, q, rfl⟩
        have he : decide (xs = ys) = true := by
          rw [decide_eq_true_iff]
          exact List.ext_getElem HL.out fun j h1 h2 => hsame.out j h1 h2 h1
        rw [he]; rfl
  · have hn : (((xs.length : Int)) != (ys.length : Int)) = true := by rw [bne_iff_ne]; omega
    have he := hide (show decide (xs = ys) = false by rw [decide_eq_false_iff_not]; intro e; exact hl (by rw [e]))
    clear h1 h2 hl hx hy
    go_enter Tryz.func33, Tryz.ntmps33
    go_wp2
    go_ret
    exact ⟨by rw [he.out]; rfl, 0, rfl⟩
set_option maxRecDepth 100000 in
set_option maxHeartbeats 1000000 in
theorem rS07_any (xs ys : List ByteArray) (A A' : Option Addr) (c c' : Nat) (w : World) (h1 : RowT w A xs) (h2 : RowT w A' ys) (hb : xs.length ≤ 9223372036854775807) (hb' : ys.length ≤ 9223372036854775807) :
    Calls Tryz.prog 32 #[.slice A xs.length c, .slice A' ys.length c'] w fun e w' => e = .returned (.bool (decide (xs = ys))) ∧ ∃ q, w' = w.drewN q := by
  by_cases hl : xs.length = ys.length
  · have H1 := hide h1
    have H2 := hide h2
    have HL := hide hl
    rw [← hl]
    have hn : (((xs.length : Int)) != (xs.length : Int)) = false := by simp
    clear h1 h2 hl
    go_enter Tryz.func32, Tryz.ntmps32
    go_wp2
    go_loopw [5] (fun i wr => ∃ k q : Nat, k ≤ xs.length ∧ i = .int .i64 k ∧ Hid (∀ j (hj : j < xs.length) (hj2 : j < ys.length), j < k → xs[j] = ys[j]) ∧ wr = w.drewN q) (fun i _ => xs.length - (intOf i).toNat)
    case atStart => exact ⟨0, 0, Nat.zero_le _, rfl, hide fun j _ _ h => absurd h (by omega), rfl⟩
    case round =>
      obtain ⟨k, q, hk, rfl, hsame, rfl⟩ := hrel
      by_cases hlt : k < xs.length
      · have hlt2 : k < ys.length := by have := HL.out; omega
        obtain ⟨b1, o1, rfl, _, hc1⟩ := H1.out (by omega)
        obtain ⟨b2, o2, rfl, _, hc2⟩ := H2.out (by omega)
        have c1 := hc1 k hlt
        have c2 := hc2 k hlt2
        obtain ⟨a, ha⟩ : ∃ a, a = xs[k] := ⟨_, rfl⟩
        obtain ⟨b, hb⟩ : ∃ b, b = ys[k] := ⟨_, rfl⟩
        rw [← ha] at c1
        rw [← hb] at c2
        have HA := hide ha
        have HBB := hide hb
        clear ha hb hc1 hc2
        have hk0 : (0 : Int) ≤ (k : Int) := by omega
        have hk1 : (k : Int) < (xs.length : Int) := by omega
        go_wp2_with fail
        go_quiet (fail)
        by_cases hab : a = b
        · have hbb : (!(a.toList == b.toList)) = false := by rw [hab]; simp
          rw [hbb]
          have HAB := hide hab
          clear hbb hab c1 c2
          go_wp2
          go_roundw
          case rel =>
            refine ⟨k + 1, q + nq, by omega, by go_num, hide fun j hj hj2 hjk => ?_, by simp⟩
            by_cases e : j < k
            · exact hsame.out j hj hj2 e
            · obtain rfl : j = k := by omega
              rw [← HA.out, ← HBB.out]; exact HAB.out
          case measure => simp [intOf]; omega
        · have hbb : (!(a.toList == b.toList)) = true := by
            have h : (a.toList == b.toList) = false := by
              rw [beq_eq_false_iff_ne]
              intro e
              rw [ByteArray.toList_eq, ByteArray.toList_eq] at e
              exact hab (ByteArray.ext (Array.toList_inj.1 e))
            rw [h]; rfl
          rw [hbb]
          have HAB := hide hab
          clear hbb hab c1 c2
          go_wp2
          go_ret
          refine ⟨?_, q + nq, by simp⟩
          have hne : decide (xs = ys) = false := by
            rw [decide_eq_false_iff_not]
            intro e
            subst e
            exact HAB.out (by rw [HA.out, HBB.out])
          rw [hne]; rfl
      · obtain rfl : k = xs.length := by omega
        go_wp2
        go_ret
        refine ⟨?_, q, rfl⟩
        have he : decide (xs = ys) = true := by
          rw [decide_eq_true_iff]
          exact List.ext_getElem HL.out fun j h1 h2 => hsame.out j h1 h2 h1
        rw [he]; rfl
  · have hn : (((xs.length : Int)) != (ys.length : Int)) = true := by rw [bne_iff_ne]; omega
    have he := hide (show decide (xs = ys) = false by rw [decide_eq_false_iff_not]; intro e; exact hl (by rw [e]))
    clear h1 h2 hl
    go_enter Tryz.func32, Tryz.ntmps32
    go_wp2
    go_ret
    exact ⟨by rw [he.out]; rfl, 0, rfl⟩
end Go.Proofs.YtpppbkdbpbpinaaGreatDoor

/- grooveref46: hamming, checkList, Hamming, Least; distance.Hamming at words of any lengths. -/
set_option linter.unusedVariables false
namespace Go.Proofs.YtpppbkdbpbpinaaGreatDoor
open Go.RowKit
theorem minL_le (m : Nat) (l : List Nat) : minL m l ≤ m := by
  unfold minL
  induction l generalizing m with
  | nil => exact Nat.le_refl _
  | cons x l ih => exact Nat.le_trans (ih (min m x)) (Nat.min_le_left m x)
set_option maxRecDepth 100000 in
set_option maxHeartbeats 1000000 in
theorem rdham_any (u v : ByteArray) (w : World) (hs : u.size = v.size) (hb : u.size ≤ 4294967296) :
    Calls Tryz.prog 63 #[.string u, .string v] w fun e w' => e = .returned (.int .i64 (ham u v : Nat)) ∧ ∃ q, w' = w.drewN q := by
  have HS := hide hs
  clear hs
  go_enter Tryz.func63, Tryz.ntmps63
  go_wp2
  go_loopw [5, 6] (fun nv iv wr => ∃ k q n : Nat, k ≤ u.size ∧ Hid (n = hamK u v k) ∧ nv = .int .i64 n ∧ iv = .int .i64 k ∧ wr = w.drewN q) (fun _ iv _ => u.size - (intOf iv).toNat)
  case atStart => exact ⟨0, 0, 0, Nat.zero_le _, hide rfl, rfl, rfl, rfl⟩
  case round =>
    obtain ⟨k, q, n, hk, hn, rfl, rfl, rfl⟩ := hrel
    by_cases hlt : k < u.size
    · have hlt2 : k < v.size := by have := HS.out; omega
      have hk0 : (0 : Int) ≤ (k : Int) := by omega
      have hk1 : (k : Int) < (u.size : Int) := by omega
      have hk2 : (k : Int) < (v.size : Int) := by omega
      have hnb : n ≤ u.size := by have := hn.out; have := hamK_le u v k; omega
      have HE := hide (hamK_eq hlt hlt2)
      have HN := hide (hamK_ne hlt hlt2)
      go_wp2_with fail
      go_quiet (fail)
      by_cases hab : u[k] = v[k]
      · have hx : (((u[k].toNat : Nat) : Int) != ((v[k].toNat : Nat) : Int)) = false := by rw [hab]; simp
        have hs2 := HE.out hab
        rw [hx]
        clear HE HN hab hx
        go_wp2
        go_roundw
        case rel => exact ⟨k + 1, q + nq, n, by omega, hide (by rw [hs2]; exact hn.out), rfl, by go_num, by simp⟩
        case measure => simp [intOf]; omega
      · have hx : (((u[k].toNat : Nat) : Int) != ((v[k].toNat : Nat) : Int)) = true := by
          rw [bne_iff_ne]
          intro e
          exact hab (UInt8.toNat_inj.1 (by omega))
        have hs2 := HN.out hab
        rw [hx]
        clear HE HN hab hx
        go_wp2
        go_roundw
        case rel => exact ⟨k + 1, q + nq, n + 1, by omega, hide (by rw [hs2, hn.out]), by go_num, by go_num, by simp⟩
        case measure => simp [intOf]; omega
    · obtain rfl : k = u.size := by omega
      go_wp2
      go_ret
      exact ⟨by rw [hn.out]; rfl, q, rfl⟩
set_option maxRecDepth 100000 in
set_option maxHeartbeats 1000000 in
theorem rdList_any (xs : List ByteArray) (A : Option Addr) (c : Nat) (w : World) (hR : RowT w A xs) (hb : xs.length ≤ 9223372036854775807) :
    Calls Tryz.prog 62 #[.slice A xs.length c] w fun e w' => e = .returned (.int .i64 (lsE xs)) ∧ ∃ q, w' = w.drewN q := by
  by_cases h1 : 4096 < xs.length
  · rw [lsE_big h1]
    have h2 : decide (4096 < xs.length) = true := decide_eq_true h1
    have h3 : decide ((4096 : Int) < (xs.length : Int)) = true := decide_eq_true (by omega)
    clear hR
    go_enter Tryz.func62, Tryz.ntmps62
    go_wp2
    go_ret
    exact ⟨rfl, 0, rfl⟩
  · have h2 : decide (4096 < xs.length) = false := decide_eq_false h1
    have h3 : decide ((4096 : Int) < (xs.length : Int)) = false := decide_eq_false (by omega)
    have HR := hide hR
    have HB := hide (fun k (hk : k < xs.length) => lsE_bad h1 hk)
    have HO := hide (lsE_ok h1)
    obtain ⟨z, hz⟩ : ∃ z, (xs.getD 0 ⟨#[]⟩).size = z := ⟨_, rfl⟩
    rw [hz] at HB HO
    have HZ := hide hz
    clear hR hz
    go_enter Tryz.func62, Tryz.ntmps62
    go_wp2
    go_loopw [3] (fun iv wr => ∃ k q : Nat, k ≤ xs.length ∧ Hid (∀ j (hj : j < xs.length), j < k → xs[j].size = z) ∧ iv = .int .i64 k ∧ wr = w.drewN q) (fun iv _ => xs.length - (intOf iv).toNat)
    case atStart => exact ⟨0, 0, Nat.zero_le _, hide fun j _ h => absurd h (by omega), rfl, rfl⟩
    case round =>
      obtain ⟨k, q, hk, hsame, rfl, rfl⟩ := hrel
      by_cases hlt : k < xs.length
      · obtain ⟨b, o, rfl, _, hc⟩ := HR.out (by omega)
        have c1 := hc k hlt
        have c0 : w.cell? ⟨b, o, none⟩ = some (.string xs[0]) := hc 0 (by omega)
        have hg : xs.getD 0 ⟨#[]⟩ = xs[0] := by rw [List.getD_eq_getElem?_getD, List.getElem?_eq_getElem (by omega)]; rfl
        have HB1 := hide (HB.out k hlt)
        have hzz := HZ.out
        rw [hg] at hzz
        obtain ⟨x, hx⟩ : ∃ x, xs[k] = x := ⟨_, rfl⟩
        obtain ⟨y, hy⟩ : ∃ y, xs[0] = y := ⟨_, rfl⟩
        have HX := hide hx
        rw [hx] at c1 HB1
        rw [hy] at c0 hzz
        subst hzz
        clear hc hg hx hy
        have hk0 : (0 : Int) ≤ (k : Int) := by omega
        have hk1 : (k : Int) < (xs.length : Int) := by omega
        by_cases he : x.size = y.size
        · have hn : ((x.size : Int) != (y.size : Int)) = false := by simp [he]
          have hn2 : (x.size != y.size) = false := by simp [he]
          have HE := hide he
          clear he HB1
          go_wp2_with fail
          go_quiet (fail)
          go_wp2
          go_roundw
          case rel =>
            refine ⟨k + 1, q + nq, hlt, hide fun j hj hjk => ?_, by go_num, by simp⟩
            by_cases e : j < k
            · exact hsame.out j hj e
            · obtain rfl : j = k := by omega
              rw [HX.out, HE.out]
          case measure => simp [intOf]; omega
        · have hn : ((x.size : Int) != (y.size : Int)) = true := by rw [bne_iff_ne]; omega
          have hn2 : (x.size != y.size) = true := by rw [bne_iff_ne]; exact he
          have HE := hide (HB1.out he)
          clear he HB1
          go_wp2_with fail
          go_quiet (fail)
          go_wp2
          go_ret
          exact ⟨by rw [HE.out]; rfl, q + nq, by simp⟩
      · obtain rfl : k = xs.length := by omega
        go_wp2
        go_ret
        exact ⟨by rw [HO.out fun j hj => hsame.out j hj hj]; rfl, q, rfl⟩
set_option maxRecDepth 100000 in
set_option maxHeartbeats 1000000 in
theorem rdHam_any (u v : ByteArray) (w : World) (hs : u.size = v.size) (hb : u.size ≤ 4294967296) :
    Calls Tryz.prog 31 #[.string u, .string v] w fun e w' => e = .returned (.tuple #[.int .i64 (ham u v : Nat), .int .i64 0]) ∧ ∃ q, w' = w.drewN q := by
  have HC := hide (fun W => rdham_any u v W hs hb)
  have hn : ((u.size : Int) != (v.size : Int)) = false := by simp [hs]
  clear hs
  go_enter Tryz.func31, Tryz.ntmps31
  go_wp2_with (go_at_call 63; refine (HC.out _).mono ?_; rintro e w' ⟨rfl, q, rfl⟩)
  go_ret2
  exact ⟨rfl, _, rfl⟩
set_option maxRecDepth 100000 in
set_option maxHeartbeats 2000000 in
theorem rdLeast_any (xs : List ByteArray) (A : Option Addr) (c : Nat) (w : World) (hR : RowT w A xs) (hb : xs.length ≤ 9223372036854775807) (hs : ∀ x ∈ xs, x.size ≤ 4294967296) :
    Calls Tryz.prog 30 #[.slice A xs.length c] w fun e w' => e = .returned (.tuple #[.int .i64 (leV xs : Nat), .int .i64 (leE xs)]) ∧ ∃ q, w' = w.drewN q := by
  have HL := hide (fun W (h : RowT W A xs) => rdList_any xs A c W h hb)
  by_cases h1 : lsE xs = 0
  · have hl := lsE_len h1
    have HZ := hide (fun k (hk : k < xs.length) => lsE_same h1 hk)
    rw [h1] at HL
    have HS := hide hs
    have HR := hide hR
    clear hs
    by_cases h2 : xs.length < 2
    · have hE := hide (show leE xs = 5 by unfold leE; rw [if_neg (by simpa using h1), if_pos h2])
      have hV := hide (show leV xs = 0 by unfold leV; rw [hE.out]; rfl)
      have h3 : decide ((xs.length : Int) < 2) = true := decide_eq_true (by omega)
      clear h1 h2 hR
      go_enter Tryz.func30, Tryz.ntmps30
      go_wp2_with (go_at_call 62; (with_reducible refine (HL.out _ HR.out).mono ?_); rintro e w1 ⟨rfl, q0, rfl⟩)
      go_ret2
      exact ⟨by rw [hE.out, hV.out]; rfl, q0, rfl⟩
    · have hE := hide (show leE xs = 0 by unfold leE; rw [if_neg (by simpa using h1), if_neg h2])
      have hV := hide (show leV xs = leastV xs by unfold leV; rw [hE.out]; rfl)
      have h3 : decide ((xs.length : Int) < 2) = false := decide_eq_false (by omega)
      have hlen : 2 ≤ xs.length := by omega
      obtain ⟨b, o, rfl, hbl, hc⟩ := hR (by omega)
      have c0 : w.cell? ⟨b, o, none⟩ = some (.string xs[0]) := hc 0 (by omega)
      have HC := hide hc
      obtain ⟨x0, hx0⟩ : ∃ x, xs[0] = x := ⟨_, rfl⟩
      have HX0 := hide (show (xs.getD 0 ⟨#[]⟩) = x0 by rw [List.getD_eq_getElem?_getD, List.getElem?_eq_getElem (by omega)]; exact hx0)
      have hz0 : x0.size ≤ 4294967296 := by rw [← hx0]; exact HS.out _ (List.getElem_mem _)
      rw [hx0] at c0
      clear h1 h2 hR hc hx0
      have hp0 : (0 : Int) < (xs.length : Int) := by omega
      go_enter Tryz.func30, Tryz.ntmps30
      go_wp2_with (go_at_call 62; (with_reducible refine (HL.out _ HR.out).mono ?_); rintro e w1 ⟨rfl, q0, rfl⟩)
      go_loopw [5, 6] (fun dv iv wr => ∃ i q d : Nat, i ≤ xs.length ∧ dv = .int .i64 d ∧ iv = .int .i64 i ∧ Hid (d = minL x0.size (prsP xs i 0)) ∧ wr = w.drewN q) (fun _ iv _ => xs.length - (intOf iv).toNat)
      case atStart => exact ⟨0, q0, x0.size, Nat.zero_le _, rfl, rfl, hide rfl, rfl⟩
      case round =>
        obtain ⟨i, q, d, hi, rfl, rfl, hd, rfl⟩ := hrel
        by_cases hlt : i < xs.length
        · have hi0 : (0 : Int) ≤ (i : Int) := by omega
          have hi1 : (i : Int) < (xs.length : Int) := by omega
          go_wp2
          go_loopw [5, 7] (fun dv jv wr => ∃ j q d : Nat, j ≤ i ∧ dv = .int .i64 d ∧ jv = .int .i64 j ∧ Hid (d = minL x0.size (prsP xs i j)) ∧ wr = w.drewN q) (fun _ jv _ => i - (intOf jv).toNat)
          case atStart => exact ⟨0, q, d, Nat.zero_le _, rfl, rfl, hd, rfl⟩
          case round =>
            clear hd
            obtain ⟨j, q, d, hj, rfl, rfl, hd, rfl⟩ := hrel
            by_cases hjl : j < i
            · have hj0 : (0 : Int) ≤ (j : Int) := by omega
              have hj1 : (j : Int) < (xs.length : Int) := by omega
              have ci := HC.out i hlt
              have cj := HC.out j (by omega)
              have HIn := hide (prsP_in xs i j)
              have hxi : xs.getD i ⟨#[]⟩ = xs[i] := by simp [hlt]
              have hxj : xs.getD j ⟨#[]⟩ = xs[j] := by simp [show j < xs.length by omega]
              have hzi := (HZ.out i hlt).trans ((HZ.out j (by omega)).symm)
              have hsi := HS.out _ (List.getElem_mem hlt)
              rw [hxi, hxj] at HIn
              obtain ⟨x, hx⟩ : ∃ x, xs[i] = x := ⟨_, rfl⟩
              obtain ⟨y, hy⟩ : ∃ y, xs[j] = y := ⟨_, rfl⟩
              rw [hx] at ci HIn hzi hsi
              rw [hy] at cj HIn hzi
              have HCx := hide (fun m => quiet_mo (rdham_any x y (w.drewN (q + m)) hzi hsi))
              obtain ⟨h, hh⟩ : ∃ h, ham x y = h := ⟨_, rfl⟩
              rw [hh] at HCx HIn
              have hhb : h ≤ 4294967296 := by rw [← hh]; exact Nat.le_trans (ham_le x y) hsi
              have hdb : d ≤ x0.size := by rw [hd.out]; exact minL_le _ _
              clear hx hy hxi hxj hzi hsi hh
              go_wp2_with fail
              go_quiet ((go_at_call 63; exact HCx.out _))
              go_wp2
              go_roundw
              case rel => exact ⟨j + 1, q + nq, min d h, by omega, by rw [show (min (d : Int) (h : Int)) = ((min d h : Nat) : Int) by omega], by go_num, hide (by rw [HIn.out, minL_sn, hd.out]), by simp⟩
              case measure => simp [intOf]; omega
            · obtain rfl : j = i := by omega
              have HD := hide (show d = minL x0.size (prsP xs (j + 1) 0) by rw [prsP_out]; exact hd.out)
              clear hd
              go_wp2
              go_roundw
              case rel => exact ⟨j + 1, q, d, hlt, rfl, by go_num, HD, rfl⟩
              case measure => simp [intOf]; omega
        · obtain rfl : i = xs.length := by omega
          go_wp2
          go_ret2
          exact ⟨by rw [hE.out, hV.out, hd.out]; unfold leastV; rw [HX0.out]; rfl, q, rfl⟩
  · have hE := hide (show leE xs = lsE xs by unfold leE; rw [if_pos h1])
    have hV := hide (show leV xs = 0 by unfold leV; rw [hE.out, if_neg h1])
    obtain ⟨r, hr⟩ : ∃ r, lsE xs = r := ⟨_, rfl⟩
    rw [hr] at HL hE h1
    have hb1 : (r != 0) = true := by simpa using h1
    have HR := hide hR
    clear hr h1 hs hR
    go_enter Tryz.func30, Tryz.ntmps30
    go_wp2_with (go_at_call 62; (with_reducible refine (HL.out _ HR.out).mono ?_); rintro e w1 ⟨rfl, q0, rfl⟩)
    go_ret2
    exact ⟨by rw [hE.out, hV.out]; rfl, q0, rfl⟩
end Go.Proofs.YtpppbkdbpbpinaaGreatDoor

/- distance.least, Least: their contracts. -/
set_option linter.unusedVariables false
set_option linter.unusedSimpArgs false
namespace Go.Proofs.YtpppbkdbpbpinaaGreatDoor
open Go.RowKit Go.Shelf
attribute [local go_sem] Oper.semAt_some
def SoL (V k : Nat) : Prop := k < V + 2 ∧ k ≠ V
/-- what the loop of least keeps -/
def InvL (V z : Nat) (W0 : World) (pre : List Nat) (W : World) : Prop := W.heap[V]? = some (.cells #[.int .i64 (minL z pre : Nat)] 3 (0, 0)) ∧ KS (SoL V) W0 W
theorem ks_set1 {S : Nat → Prop} {a w : World} (h : KS S a w) {p : Addr} (hp : ¬ S p.block) (u : Value) : KS S a (w.setCell p u) :=
  ⟨h.os, h.tape, h.output, by simpa [World.setCell] using h.size, fun k hk hs => (Below.heap_setCell w p u k (fun e => hp (e ▸ hs))).trans (h.block k hk hs)⟩
theorem set1 {w : World} {b : Nat} {x u : Value} {t : TypeId} (h : w.heap[b]? = some (.cells #[x] t (0, 0))) : (w.setCell ⟨b, 0, none⟩ u).heap[b]? = some (.cells #[u] t (0, 0)) := by
  simp [World.setCell, Array.getElem?_modify, h]
theorem marks_one1 {base D : Nat} {w : World} (h1 : base ≤ D) (h2 : w.heap[D]? = some (.deferred (some []))) : Marks base [mark D] w :=
  ⟨[D], rfl, by simp, fun E hE => by
    obtain rfl : E = D := by simpa using hE
    exact ⟨h1, h2⟩⟩
set_option maxRecDepth 100000 in
set_option maxHeartbeats 4000000 in
theorem dsleast_any (xs : List ByteArray) (A : Option Addr) (c : Nat) (w : World) (hR : RowT w A xs) (h0 : 0 < xs.length) (hl : xs.length ≤ 4294967296) (z : Nat) (hz : ∀ k (hk : k < xs.length), xs[k].size = z) (hzb : z ≤ 4294967296) :
    Calls Tryz.prog 60 #[.slice A xs.length c] w fun e w' => e = .returned (.int .i64 (minL z (prs xs) : Nat)) ∧ Below w.heap.size w w' := by
  refine (callsIn_wide (n := 3)).1 ?_
  obtain ⟨V, hV⟩ : ∃ V, w.heap.size = V := ⟨_, rfl⟩
  obtain ⟨b, o, rfl, hbl, hc⟩ := hR h0
  have c0 : w.cell? ⟨b, o, none⟩ = some (.string xs[0]) := hc 0 h0
  have hz0 := hz 0 h0
  obtain ⟨x0, hx0⟩ : ∃ x, xs[0] = x := ⟨_, rfl⟩
  rw [hx0] at c0 hz0
  have HX := hide hx0
  subst hz0
  have HR := hide hR
  have HZ := hide hz
  have HPr := hide (fun W => callsIn_wide (n := 2).2 (pairs_in (some ⟨b, o, none⟩) xs.length c W))
  have h0i : (0 : Int) < (xs.length : Int) := by omega
  clear hR hz hc hx0
  refine callsIn_of_wp_marks Tryz.func60 rfl trivial ?_ rfl
  simp only [Tryz.ntmps60, List.size_toArray, List.length_cons, List.length_nil, Nat.reduceAdd, Nat.reduceSub, Array.replicate_succ, Array.replicate_zero, List.push_toArray, List.append_toArray, List.nil_append, List.cons_append]
  gi_wp2_with fail
  have hB1 : Below V w (w.alloc (.cells #[.int .i64 (x0.size : Nat)] 3)) := by rw [← hV]; exact (Below.refl _ w).alloc (Nat.le_refl _) _
  have hb1 : (w.alloc (.cells #[.int .i64 (x0.size : Nat)] 3)).heap[V]? = some (.cells #[.int .i64 (x0.size : Nat)] 3 (0, 0)) := hV ▸ heap_alloc_new w _
  have hz1 : (w.alloc (.cells #[.int .i64 (x0.size : Nat)] 3)).heap.size = V + 1 := by rw [← hV]; simp
  generalize w.alloc (.cells #[.int .i64 (x0.size : Nat)] 3) = W1 at hB1 hb1 hz1 ⊢
  refine ⟨trivial, ?_⟩
  (with_reducible refine (HPr.out W1).mono ?_)
  rintro e W2 ⟨rfl, hW2⟩
  have hB2 : Below V w W2 := by rw [hW2]; exact hB1.alloc (by omega) _
  have hz2 : W2.heap.size = V + 2 := by rw [hW2]; simp; omega
  have hb2 : W2.heap[V]? = some (.cells #[.int .i64 (x0.size : Nat)] 3 (0, 0)) := by rw [hW2, heap_alloc_old _ _ (by omega)]; exact hb1
  have hs2 : W2.heap[V + 1]? = some (.cells #[.slice (some ⟨b, o, none⟩) xs.length c] 25 (0, 0)) := by
    rw [hW2]
    have := heap_alloc_new W1 (.cells #[.slice (some ⟨b, o, none⟩) xs.length c] 25)
    rwa [hz1] at this
  rw [hz1]
  clear hW2 hB1 hb1 hz1 HPr
  have hS : ∀ k, W2.heap.size ≤ k → ¬ SoL V k := fun k hk h => by have := h.1; omega
  have HB := hide hB2
  have HB2 := hide hb2
  have HS2 := hide hs2
  have HV := hide hV
  clear hB2 hb2 hs2 hV c0
  gi_wp2_with fail
  refine wpIn_rangeFunc_ownH rfl (by omega) (gf := 204) (lb := #[.pointer (some ⟨V + 1, 0, none⟩)]) rfl trivial (enters_of Tryz.func204 (by kernel_rfl) rfl)
    (pairsf_stops 2 (by omega) (V + 1) c xs (some ⟨b, o, none⟩) hl x0.size HZ.out hzb (KS (SoL V)) (KS.refl _) (fun W q => (KS.refl _ W).grown (grown_drewN W q) (fun _ e => by cases e)) (fun h k => h.trans k) W2
      (fun W W' hW hK => ?k1))
    (fun h k => h.trans k) (ks_b hS) (Below.refl _ _) (fun _ => rfl)
    (InvL V x0.size W2)
    (fun _ _ _ => False)
    (OwnFrom.and (fun p X Y row hs hg hr => ?own1) (ownFrom_ks (fun k h1 _ => hS k h1) (Nat.le_refl _)))
    (fun _ _ _ _ _ hs _ _ => hs)
    ⟨HB2.out, KS.refl _ _⟩
    (fun x a' W => a' = { tmps := #[.slice (some ⟨b, o, none⟩) xs.length c, undef, .int .i64 0, .pointer (some ⟨V, 0, none⟩), .int .i64 (x : Nat), .slice (some ⟨b, o, none⟩) xs.length c, .pointer (some ⟨b, o, none⟩), .string x0, .int .i64 x0.size, .slice (some ⟨b, o, none⟩) xs.length c, .func (.func 204) #[] #[.pointer (some ⟨V + 1, 0, none⟩)], .int .i64 (x : Nat), undef, undef, undef, undef], defers := [] })
    ?hax ?assign ?body ?done ?stop
  case k1 =>
    have h1 : KS (SoL V) W2 W' := (KS.of_below hW (fun k hk => by have := hk.1; omega)).trans hK
    refine ⟨HR.out.below (HV.out.symm ▸ HB.out.trans (h1.below (B := V) (fun k hk => ⟨by omega, by omega⟩) (by omega) |>.mono (by omega))), ?_⟩
    exact h1.cell (p := ⟨V + 1, 0, none⟩) (cell_of_one HS2.out) ⟨by show V + 1 < _; omega, by show V + 1 ≠ _; omega⟩
  case own1 =>
    have hl1 := (Array.getElem?_eq_some_iff.1 hs).1
    exact (hg.block V hl1 (fun e => by have := (hr _ e.symm).1; omega)).trans hs
  case hax =>
    intro x a' p X Y row hs hg hrow
    exact hs
  case assign =>
    rintro l pre x W K hI hK
    gi_wp2
    exact hK _ _ (KeepsFrom.refl _ _) (KS.refl _ _) hI rfl
  case body =>
    rintro l pre x a' W _ _ ⟨hblk, hks⟩ rfl hlen
    obtain ⟨m, hm⟩ : ∃ m, minL x0.size pre = m := ⟨_, rfl⟩
    have hmb : m ≤ x0.size := by rw [← hm]; exact minL_le _ _
    rw [hm] at hblk
    have hc := cell_of_one hblk
    have hf : W.frozen? ⟨V, 0, none⟩ = false := by simp [World.frozen?, hblk]
    have HM := hide hm
    have HK := hide hks
    have HBL := hide hblk
    clear hm hks hblk hlen
    gi_wp2
    have hk1 : KS (SoL V) W (W.setCell ⟨V, 0, none⟩ (.int .i64 (min (m : Int) (x : Int)))) := ks_set1 (KS.refl _ W) (fun h => h.2 rfl) _
    refine ⟨⟨by simp [World.setCell], fun k ob hk ho hc2 => (Below.heap_setCell _ _ _ _ (by show k ≠ V; omega)).trans ho⟩, hk1, ?_, HK.out.trans hk1⟩
    rw [minL_sn, HM.out, show ((min m x : Nat) : Int) = min (m : Int) (x : Int) by omega]
    exact set1 HBL.out
  case done =>
    rintro D ys W hD rfl ⟨hblk, hks⟩ hK
    have hM : Marks (V + 2) [mark D] W := marks_one1 (by omega) hK
    have hc := cell_of_one hblk
    have HM := hide hM
    have HBl := hide (show Below V w W from HB.out.trans ((hks.below (B := V) (fun k hk => ⟨by omega, by omega⟩) (by omega)).mono (by omega)))
    clear hblk hks hK hM
    gi_wp2
    refine leaves_marks (base := V + 2) HM.out fun w9 hSh => ⟨_, results_tmp rfl _ _ _, rfl, ?_⟩
    rw [HV.out]
    exact hSh.below HBl.out (by omega)
  case stop =>
    rintro D c pre W _ _ hF
    exact hF.elim
theorem nine_zero (xs : List ByteArray) (h : lsE xs = 0) (h2 : ¬ xs.length < 2) : leE xs = 0 ∧ leV xs = leastV xs := by
  have hE : leE xs = 0 := by unfold leE; rw [if_neg (by simpa using h), if_neg h2]
  exact ⟨hE, by unfold leV; rw [if_pos hE]⟩
set_option maxRecDepth 100000 in
set_option maxHeartbeats 2000000 in
theorem dsLeast_any (xs : List ByteArray) (A : Option Addr) (c : Nat) (w : World) (hR : RowT w A xs) (hb : xs.length ≤ 9223372036854775807) (hs : ∀ x ∈ xs, x.size ≤ 4294967296) :
    Calls Tryz.prog 28 #[.slice A xs.length c] w fun e w' => e = .returned (.tuple #[.int .i64 (leV xs : Nat), .int .i64 (leE xs)]) ∧ Below w.heap.size w w' := by
  have HL := hide (dslisted_any xs A c w hR hb)
  by_cases h1 : lsE xs = 0
  · have hl := lsE_len h1
    by_cases h2 : xs.length < 2
    · have hE := hide (show leE xs = 5 by unfold leE; rw [if_neg (by simpa using h1), if_pos h2])
      have hV := hide (show leV xs = 0 by unfold leV; rw [hE.out]; rfl)
      have h3 : decide ((xs.length : Int) < 2) = true := decide_eq_true (by omega)
      rw [h1] at HL
      clear h1 h2 hR hs
      go_enter Tryz.func28, Tryz.ntmps28
      go_wp2_with (go_at_call 59; (with_reducible refine HL.out.mono ?_); rintro e w1 ⟨rfl, rfl⟩)
      go_ret2
      exact ⟨by rw [hE.out, hV.out]; rfl, Below.refl _ _⟩
    · obtain ⟨k1, k2⟩ := nine_zero xs h1 h2
      have hE := hide k1
      have hV := hide k2
      have hz : ∀ k (hk : k < xs.length), xs[k].size = (xs.getD 0 ⟨#[]⟩).size := fun k hk => lsE_same h1 hk
      have HD := hide (dsleast_any xs A c w hR (by omega) (by omega) _ hz (by rw [← hz 0 (by omega)]; exact hs _ (List.getElem_mem _)))
      have h3 : decide ((xs.length : Int) < 2) = false := decide_eq_false (by omega)
      rw [h1] at HL
      clear h1 h2 hR hs k1 k2 hz
      go_enter Tryz.func28, Tryz.ntmps28
      go_wp2_with (first
        | (go_at_call 59; (with_reducible refine HL.out.mono ?_); rintro e w1 ⟨rfl, rfl⟩)
        | (go_at_call 60; (with_reducible refine HD.out.mono ?_); rintro e w1 ⟨rfl, hB⟩))
      go_ret2
      exact ⟨by rw [hE.out, hV.out]; rfl, hB⟩
  · have hE := hide (show leE xs = lsE xs by unfold leE; rw [if_pos h1])
    have hV := hide (show leV xs = 0 by unfold leV; rw [hE.out, if_neg h1])
    obtain ⟨r, hr⟩ : ∃ r, lsE xs = r := ⟨_, rfl⟩
    rw [hr] at HL hE h1
    have hb1 : (r != 0) = true := by simpa using h1
    clear hr h1 hs hR
    go_enter Tryz.func28, Tryz.ntmps28
    go_wp2_with (go_at_call 59; (with_reducible refine HL.out.mono ?_); rintro e w1 ⟨rfl, rfl⟩)
    go_ret2
    exact ⟨by rw [hE.out, hV.out]; rfl, Below.refl _ _⟩
end Go.Proofs.YtpppbkdbpbpinaaGreatDoor

/- slices.IndexFunc, ContainsFunc at []api.Int, [][]api.Int, [][][]api.Int, with whatever function value: their contracts (printed by wip/mk_cfn.py). -/
set_option linter.unusedVariables false
namespace Go.Proofs.YtpppbkdbpbpinaaGreatDoor
open Go.RowKit
set_option maxRecDepth 100000 in
set_option maxHeartbeats 2000000 in
theorem ifI_any (FN : Nat) (ng_ : Nat → Bool) (mg_ : Nat → ByteArray) (b : Nat → Bool) (n c g o : Nat) (w : World) (hn : n ≤ 4294967296) (hgl : g < w.heap.size) (hc : ∀ i, i < n → w.cell? ⟨g, o + i * 2, none⟩ = some (.bool (ng_ i)) ∧ w.cell? ⟨g, o + i * 2 + 1, none⟩ = some (.string (mg_ i)))
    (hcf : ∀ (args : Array Value) (W : World), (callFunc FN args).run Tryz.prog W = .ok (.enter FN args) W)
    (H : Hid (∀ i W, i < n → Below w.heap.size w W → Calls Tryz.prog FN #[(.agg #[.bool (ng_ i), .string (mg_ i)])] W fun e W' => e = .returned (.bool (b i)) ∧ Below W.heap.size W W')) :
    Calls Tryz.prog 302 #[.slice (some ⟨g, o, none⟩) n c, .func (.func FN) #[] #[]] w fun e w' => ∃ z : Int, e = .returned (.int .i64 z) ∧ decide (0 ≤ z) = (List.range n).any b ∧ Below w.heap.size w w' := by
  have HC := hide hc
  clear hc
  go_enter Tryz.func302, Tryz.ntmps302
  go_wp2
  go_loopw [8] (fun iv wr => ∃ i : Nat, iv = .int .i64 i ∧ i ≤ n ∧ Hid (∀ j, j < i → b j = false) ∧ Below w.heap.size w wr) (fun iv _ => n - (intOf iv).toNat)
  case atStart => exact ⟨0, rfl, Nat.zero_le _, hide fun j h => absurd h (by omega), Below.refl _ _⟩
  case round =>
    obtain ⟨i, rfl, hi, hJ, hB⟩ := hrel
    by_cases hlt : i < n
    · have hi0 : (0 : Int) ≤ (i : Int) := by omega
      have hi1 : (i : Int) < (n : Int) := by omega
      have y0 := (hB.cell (p := ⟨g, o + i * 2, none⟩) hgl).trans (HC.out i hlt).1
      have y1 := (hB.cell (p := ⟨g, o + i * 2 + 1, none⟩) hgl).trans (HC.out i hlt).2
      have HF := hide (H.out i wr hlt hB)
      have HB := hide hB
      clear hB
      cases hb : b i with
      | true =>
        rw [hb] at HF
        have HA := hide (show (List.range n).any b = true by
          rw [List.any_eq_true]
          exact ⟨i, List.mem_range.2 hlt, hb⟩)
        clear hb
        go_wp2_with fail
        (with_reducible refine HF.out.mono ?_)
        rintro e w1 ⟨rfl, hB1⟩
        have HB1 := hide (HB.out.trans (hB1.mono HB.out.size))
        clear hB1
        go_wp2
        go_ret
        exact ⟨_, rfl, by rw [HA.out]; exact decide_eq_true hi0, HB1.out⟩
      | false =>
        rw [hb] at HF
        have HJ2 := hide (show ∀ j, j < i + 1 → b j = false from fun j hj => by
          rcases Nat.lt_or_ge j i with h | h
          · exact hJ.out j h
          · obtain rfl : j = i := by omega
            exact hb)
        clear hb hJ
        go_wp2_with fail
        (with_reducible refine HF.out.mono ?_)
        rintro e w1 ⟨rfl, hB1⟩
        have HB1 := hide (HB.out.trans (hB1.mono HB.out.size))
        clear hB1
        go_wp2
        go_roundw
        case rel => exact ⟨i + 1, by go_num, hlt, HJ2, HB1.out⟩
        case measure => simp [intOf]; omega
    · obtain rfl : i = n := by omega
      have HB := hide hB
      have HA := hide (show (List.range i).any b = false by
        rw [List.any_eq_false]
        intro j hj
        rw [hJ.out j (List.mem_range.1 hj)]
        simp)
      clear hB hJ
      go_wp2
      go_ret
      exact ⟨-1, rfl, by rw [HA.out]; rfl, HB.out⟩
set_option maxRecDepth 100000 in
set_option maxHeartbeats 1000000 in
theorem cfI_any (FN : Nat) (ng_ : Nat → Bool) (mg_ : Nat → ByteArray) (b : Nat → Bool) (n c g o : Nat) (w : World) (hn : n ≤ 4294967296) (hgl : g < w.heap.size) (hc : ∀ i, i < n → w.cell? ⟨g, o + i * 2, none⟩ = some (.bool (ng_ i)) ∧ w.cell? ⟨g, o + i * 2 + 1, none⟩ = some (.string (mg_ i)))
    (hcf : ∀ (args : Array Value) (W : World), (callFunc FN args).run Tryz.prog W = .ok (.enter FN args) W)
    (H : Hid (∀ i W, i < n → Below w.heap.size w W → Calls Tryz.prog FN #[(.agg #[.bool (ng_ i), .string (mg_ i)])] W fun e W' => e = .returned (.bool (b i)) ∧ Below W.heap.size W W')) :
    Calls Tryz.prog 243 #[.slice (some ⟨g, o, none⟩) n c, .func (.func FN) #[] #[]] w fun e w' => e = .returned (.bool ((List.range n).any b)) ∧ Below w.heap.size w w' := by
  have HI := hide (ifI_any FN ng_ mg_ b n c g o w hn hgl hc hcf H)
  clear hc H hcf
  go_enter Tryz.func243, Tryz.ntmps243
  go_wp2_with fail
  (with_reducible refine HI.out.mono ?_)
  rintro e w1 ⟨z, rfl, hz, hB⟩
  have HZ := hide hz
  have HB := hide hB
  clear hz hB
  go_wp2
  go_ret
  exact ⟨by rw [← HZ.out]; rfl, HB.out⟩
set_option maxRecDepth 100000 in
set_option maxHeartbeats 2000000 in
theorem ifR_any (FN : Nat) (el : Nat → Value) (b : Nat → Bool) (n c g o : Nat) (w : World) (hn : n ≤ 4294967296) (hgl : g < w.heap.size) (hc : ∀ i, i < n → w.cell? ⟨g, o + i, none⟩ = some (el i))
    (hcf : ∀ (args : Array Value) (W : World), (callFunc FN args).run Tryz.prog W = .ok (.enter FN args) W)
    (H : Hid (∀ i W, i < n → Below w.heap.size w W → Calls Tryz.prog FN #[(el i)] W fun e W' => e = .returned (.bool (b i)) ∧ Below W.heap.size W W')) :
    Calls Tryz.prog 353 #[.slice (some ⟨g, o, none⟩) n c, .func (.func FN) #[] #[]] w fun e w' => ∃ z : Int, e = .returned (.int .i64 z) ∧ decide (0 ≤ z) = (List.range n).any b ∧ Below w.heap.size w w' := by
  have HC := hide hc
  clear hc
  go_enter Tryz.func353, Tryz.ntmps353
  go_wp2
  go_loopw [8] (fun iv wr => ∃ i : Nat, iv = .int .i64 i ∧ i ≤ n ∧ Hid (∀ j, j < i → b j = false) ∧ Below w.heap.size w wr) (fun iv _ => n - (intOf iv).toNat)
  case atStart => exact ⟨0, rfl, Nat.zero_le _, hide fun j h => absurd h (by omega), Below.refl _ _⟩
  case round =>
    obtain ⟨i, rfl, hi, hJ, hB⟩ := hrel
    by_cases hlt : i < n
    · have hi0 : (0 : Int) ≤ (i : Int) := by omega
      have hi1 : (i : Int) < (n : Int) := by omega
      have y0 := (hB.cell (p := ⟨g, o + i, none⟩) hgl).trans (HC.out i hlt)
      have HF := hide (H.out i wr hlt hB)
      have HB := hide hB
      clear hB
      cases hb : b i with
      | true =>
        rw [hb] at HF
        have HA := hide (show (List.range n).any b = true by
          rw [List.any_eq_true]
          exact ⟨i, List.mem_range.2 hlt, hb⟩)
        clear hb
        go_wp2_with fail
        (with_reducible refine HF.out.mono ?_)
        rintro e w1 ⟨rfl, hB1⟩
        have HB1 := hide (HB.out.trans (hB1.mono HB.out.size))
        clear hB1
        go_wp2
        go_ret
        exact ⟨_, rfl, by rw [HA.out]; exact decide_eq_true hi0, HB1.out⟩
      | false =>
        rw [hb] at HF
        have HJ2 := hide (show ∀ j, j < i + 1 → b j = false from fun j hj => by
          rcases Nat.lt_or_ge j i with h | h
          · exact hJ.out j h
          · obtain rfl : j = i := by omega
            exact hb)
        clear hb hJ
        go_wp2_with fail
        (with_reducible refine HF.out.mono ?_)
        rintro e w1 ⟨rfl, hB1⟩
        have HB1 := hide (HB.out.trans (hB1.mono HB.out.size))
        clear hB1
        go_wp2
        go_roundw
        case rel => exact ⟨i + 1, by go_num, hlt, HJ2, HB1.out⟩
        case measure => simp [intOf]; omega
    · obtain rfl : i = n := by omega
      have HB := hide hB
      have HA := hide (show (List.range i).any b = false by
        rw [List.any_eq_false]
        intro j hj
        rw [hJ.out j (List.mem_range.1 hj)]
        simp)
      clear hB hJ
      go_wp2
      go_ret
      exact ⟨-1, rfl, by rw [HA.out]; rfl, HB.out⟩
set_option maxRecDepth 100000 in
set_option maxHeartbeats 1000000 in
theorem cfR_any (FN : Nat) (el : Nat → Value) (b : Nat → Bool) (n c g o : Nat) (w : World) (hn : n ≤ 4294967296) (hgl : g < w.heap.size) (hc : ∀ i, i < n → w.cell? ⟨g, o + i, none⟩ = some (el i))
    (hcf : ∀ (args : Array Value) (W : World), (callFunc FN args).run Tryz.prog W = .ok (.enter FN args) W)
    (H : Hid (∀ i W, i < n → Below w.heap.size w W → Calls Tryz.prog FN #[(el i)] W fun e W' => e = .returned (.bool (b i)) ∧ Below W.heap.size W W')) :
    Calls Tryz.prog 319 #[.slice (some ⟨g, o, none⟩) n c, .func (.func FN) #[] #[]] w fun e w' => e = .returned (.bool ((List.range n).any b)) ∧ Below w.heap.size w w' := by
  have HI := hide (ifR_any FN el b n c g o w hn hgl hc hcf H)
  clear hc H hcf
  go_enter Tryz.func319, Tryz.ntmps319
  go_wp2_with fail
  (with_reducible refine HI.out.mono ?_)
  rintro e w1 ⟨z, rfl, hz, hB⟩
  have HZ := hide hz
  have HB := hide hB
  clear hz hB
  go_wp2
  go_ret
  exact ⟨by rw [← HZ.out]; rfl, HB.out⟩
set_option maxRecDepth 100000 in
set_option maxHeartbeats 2000000 in
theorem ifR1_any (FN : Nat) (c1 : Value) (el : Nat → Value) (b : Nat → Bool) (n c g o : Nat) (w : World) (hn : n ≤ 4294967296) (hgl : g < w.heap.size) (hc : ∀ i, i < n → w.cell? ⟨g, o + i, none⟩ = some (el i))
    (hcf : ∀ (args : Array Value) (W : World), (callFunc FN args).run Tryz.prog W = .ok (.enter FN args) W)
    (H : Hid (∀ i W, i < n → Below w.heap.size w W → Calls Tryz.prog FN #[(el i), c1] W fun e W' => e = .returned (.bool (b i)) ∧ Below W.heap.size W W')) :
    Calls Tryz.prog 353 #[.slice (some ⟨g, o, none⟩) n c, .func (.func FN) #[] #[c1]] w fun e w' => ∃ z : Int, e = .returned (.int .i64 z) ∧ decide (0 ≤ z) = (List.range n).any b ∧ Below w.heap.size w w' := by
  have HC := hide hc
  clear hc
  go_enter Tryz.func353, Tryz.ntmps353
  go_wp2
  go_loopw [8] (fun iv wr => ∃ i : Nat, iv = .int .i64 i ∧ i ≤ n ∧ Hid (∀ j, j < i → b j = false) ∧ Below w.heap.size w wr) (fun iv _ => n - (intOf iv).toNat)
  case atStart => exact ⟨0, rfl, Nat.zero_le _, hide fun j h => absurd h (by omega), Below.refl _ _⟩
  case round =>
    obtain ⟨i, rfl, hi, hJ, hB⟩ := hrel
    by_cases hlt : i < n
    · have hi0 : (0 : Int) ≤ (i : Int) := by omega
      have hi1 : (i : Int) < (n : Int) := by omega
      have y0 := (hB.cell (p := ⟨g, o + i, none⟩) hgl).trans (HC.out i hlt)
      have HF := hide (H.out i wr hlt hB)
      have HB := hide hB
      clear hB
      cases hb : b i with
      | true =>
        rw [hb] at HF
        have HA := hide (show (List.range n).any b = true by
          rw [List.any_eq_true]
          exact ⟨i, List.mem_range.2 hlt, hb⟩)
        clear hb
        go_wp2_with fail
        (with_reducible refine HF.out.mono ?_)
        rintro e w1 ⟨rfl, hB1⟩
        have HB1 := hide (HB.out.trans (hB1.mono HB.out.size))
        clear hB1
        go_wp2
        go_ret
        exact ⟨_, rfl, by rw [HA.out]; exact decide_eq_true hi0, HB1.out⟩
      | false =>
        rw [hb] at HF
        have HJ2 := hide (show ∀ j, j < i + 1 → b j = false from fun j hj => by
          rcases Nat.lt_or_ge j i with h | h
          · exact hJ.out j h
          · obtain rfl : j = i := by omega
            exact hb)
        clear hb hJ
        go_wp2_with fail
        (with_reducible refine HF.out.mono ?_)
        rintro e w1 ⟨rfl, hB1⟩
        have HB1 := hide (HB.out.trans (hB1.mono HB.out.size))
        clear hB1
        go_wp2
        go_roundw
        case rel => exact ⟨i + 1, by go_num, hlt, HJ2, HB1.out⟩
        case measure => simp [intOf]; omega
    · obtain rfl : i = n := by omega
      have HB := hide hB
      have HA := hide (show (List.range i).any b = false by
        rw [List.any_eq_false]
        intro j hj
        rw [hJ.out j (List.mem_range.1 hj)]
        simp)
      clear hB hJ
      go_wp2
      go_ret
      exact ⟨-1, rfl, by rw [HA.out]; rfl, HB.out⟩
set_option maxRecDepth 100000 in
set_option maxHeartbeats 1000000 in
theorem cfR1_any (FN : Nat) (c1 : Value) (el : Nat → Value) (b : Nat → Bool) (n c g o : Nat) (w : World) (hn : n ≤ 4294967296) (hgl : g < w.heap.size) (hc : ∀ i, i < n → w.cell? ⟨g, o + i, none⟩ = some (el i))
    (hcf : ∀ (args : Array Value) (W : World), (callFunc FN args).run Tryz.prog W = .ok (.enter FN args) W)
    (H : Hid (∀ i W, i < n → Below w.heap.size w W → Calls Tryz.prog FN #[(el i), c1] W fun e W' => e = .returned (.bool (b i)) ∧ Below W.heap.size W W')) :
    Calls Tryz.prog 319 #[.slice (some ⟨g, o, none⟩) n c, .func (.func FN) #[] #[c1]] w fun e w' => e = .returned (.bool ((List.range n).any b)) ∧ Below w.heap.size w w' := by
  have HI := hide (ifR1_any FN c1 el b n c g o w hn hgl hc hcf H)
  clear hc H hcf
  go_enter Tryz.func319, Tryz.ntmps319
  go_wp2_with fail
  (with_reducible refine HI.out.mono ?_)
  rintro e w1 ⟨z, rfl, hz, hB⟩
  have HZ := hide hz
  have HB := hide hB
  clear hz hB
  go_wp2
  go_ret
  exact ⟨by rw [← HZ.out]; rfl, HB.out⟩
set_option maxRecDepth 100000 in
set_option maxHeartbeats 2000000 in
theorem ifM_any (FN : Nat) (el : Nat → Value) (b : Nat → Bool) (n c g o : Nat) (w : World) (hn : n ≤ 4294967296) (hgl : g < w.heap.size) (hc : ∀ i, i < n → w.cell? ⟨g, o + i, none⟩ = some (el i))
    (hcf : ∀ (args : Array Value) (W : World), (callFunc FN args).run Tryz.prog W = .ok (.enter FN args) W)
    (H : Hid (∀ i W, i < n → Below w.heap.size w W → Calls Tryz.prog FN #[(el i)] W fun e W' => e = .returned (.bool (b i)) ∧ Below W.heap.size W W')) :
    Calls Tryz.prog 318 #[.slice (some ⟨g, o, none⟩) n c, .func (.func FN) #[] #[]] w fun e w' => ∃ z : Int, e = .returned (.int .i64 z) ∧ decide (0 ≤ z) = (List.range n).any b ∧ Below w.heap.size w w' := by
  have HC := hide hc
  clear hc
  go_enter Tryz.func318, Tryz.ntmps318
  go_wp2
  go_loopw [8] (fun iv wr => ∃ i : Nat, iv = .int .i64 i ∧ i ≤ n ∧ Hid (∀ j, j < i → b j = false) ∧ Below w.heap.size w wr) (fun iv _ => n - (intOf iv).toNat)
  case atStart => exact ⟨0, rfl, Nat.zero_le _, hide fun j h => absurd h (by omega), Below.refl _ _⟩
  case round =>
    obtain ⟨i, rfl, hi, hJ, hB⟩ := hrel
    by_cases hlt : i < n
    · have hi0 : (0 : Int) ≤ (i : Int) := by omega
      have hi1 : (i : Int) < (n : Int) := by omega
      have y0 := (hB.cell (p := ⟨g, o + i, none⟩) hgl).trans (HC.out i hlt)
      have HF := hide (H.out i wr hlt hB)
      have HB := hide hB
      clear hB
      cases hb : b i with
      | true =>
        rw [hb] at HF
        have HA := hide (show (List.range n).any b = true by
          rw [List.any_eq_true]
          exact ⟨i, List.mem_range.2 hlt, hb⟩)
        clear hb
        go_wp2_with fail
        (with_reducible refine HF.out.mono ?_)
        rintro e w1 ⟨rfl, hB1⟩
        have HB1 := hide (HB.out.trans (hB1.mono HB.out.size))
        clear hB1
        go_wp2
        go_ret
        exact ⟨_, rfl, by rw [HA.out]; exact decide_eq_true hi0, HB1.out⟩
      | false =>
        rw [hb] at HF
        have HJ2 := hide (show ∀ j, j < i + 1 → b j = false from fun j hj => by
          rcases Nat.lt_or_ge j i with h | h
          · exact hJ.out j h
          · obtain rfl : j = i := by omega
            exact hb)
        clear hb hJ
        go_wp2_with fail
        (with_reducible refine HF.out.mono ?_)
        rintro e w1 ⟨rfl, hB1⟩
        have HB1 := hide (HB.out.trans (hB1.mono HB.out.size))
        clear hB1
        go_wp2
        go_roundw
        case rel => exact ⟨i + 1, by go_num, hlt, HJ2, HB1.out⟩
        case measure => simp [intOf]; omega
    · obtain rfl : i = n := by omega
      have HB := hide hB
      have HA := hide (show (List.range i).any b = false by
        rw [List.any_eq_false]
        intro j hj
        rw [hJ.out j (List.mem_range.1 hj)]
        simp)
      clear hB hJ
      go_wp2
      go_ret
      exact ⟨-1, rfl, by rw [HA.out]; rfl, HB.out⟩
set_option maxRecDepth 100000 in
set_option maxHeartbeats 1000000 in
theorem cfM_any (FN : Nat) (el : Nat → Value) (b : Nat → Bool) (n c g o : Nat) (w : World) (hn : n ≤ 4294967296) (hgl : g < w.heap.size) (hc : ∀ i, i < n → w.cell? ⟨g, o + i, none⟩ = some (el i))
    (hcf : ∀ (args : Array Value) (W : World), (callFunc FN args).run Tryz.prog W = .ok (.enter FN args) W)
    (H : Hid (∀ i W, i < n → Below w.heap.size w W → Calls Tryz.prog FN #[(el i)] W fun e W' => e = .returned (.bool (b i)) ∧ Below W.heap.size W W')) :
    Calls Tryz.prog 275 #[.slice (some ⟨g, o, none⟩) n c, .func (.func FN) #[] #[]] w fun e w' => e = .returned (.bool ((List.range n).any b)) ∧ Below w.heap.size w w' := by
  have HI := hide (ifM_any FN el b n c g o w hn hgl hc hcf H)
  clear hc H hcf
  go_enter Tryz.func275, Tryz.ntmps275
  go_wp2_with fail
  (with_reducible refine HI.out.mono ?_)
  rintro e w1 ⟨z, rfl, hz, hB⟩
  have HZ := hide hz
  have HB := hide hB
  clear hz hB
  go_wp2
  go_ret
  exact ⟨by rw [← HZ.out]; rfl, HB.out⟩
set_option maxRecDepth 100000 in
set_option maxHeartbeats 2000000 in
theorem ifZ_any (FN : Nat) (el : Nat → Value) (b : Nat → Bool) (n c g o : Nat) (w : World) (hn : n ≤ 4294967296) (hgl : g < w.heap.size) (hc : ∀ i, i < n → w.cell? ⟨g, o + i, none⟩ = some (el i))
    (hcf : ∀ (args : Array Value) (W : World), (callFunc FN args).run Tryz.prog W = .ok (.enter FN args) W)
    (H : Hid (∀ i W, i < n → Below w.heap.size w W → Calls Tryz.prog FN #[(el i)] W fun e W' => e = .returned (.bool (b i)) ∧ Below W.heap.size W W')) :
    Calls Tryz.prog 190 #[.slice (some ⟨g, o, none⟩) n c, .func (.func FN) #[] #[]] w fun e w' => ∃ z : Int, e = .returned (.int .i64 z) ∧ decide (0 ≤ z) = (List.range n).any b ∧ Below w.heap.size w w' := by
  have HC := hide hc
  clear hc
  go_enter Tryz.func190, Tryz.ntmps190
  go_wp2
  go_loopw [8] (fun iv wr => ∃ i : Nat, iv = .int .i64 i ∧ i ≤ n ∧ Hid (∀ j, j < i → b j = false) ∧ Below w.heap.size w wr) (fun iv _ => n - (intOf iv).toNat)
  case atStart => exact ⟨0, rfl, Nat.zero_le _, hide fun j h => absurd h (by omega), Below.refl _ _⟩
  case round =>
    obtain ⟨i, rfl, hi, hJ, hB⟩ := hrel
    by_cases hlt : i < n
    · have hi0 : (0 : Int) ≤ (i : Int) := by omega
      have hi1 : (i : Int) < (n : Int) := by omega
      have y0 := (hB.cell (p := ⟨g, o + i, none⟩) hgl).trans (HC.out i hlt)
      have HF := hide (H.out i wr hlt hB)
      have HB := hide hB
      clear hB
      cases hb : b i with
      | true =>
        rw [hb] at HF
        have HA := hide (show (List.range n).any b = true by
          rw [List.any_eq_true]
          exact ⟨i, List.mem_range.2 hlt, hb⟩)
        clear hb
        go_wp2_with fail
        (with_reducible refine HF.out.mono ?_)
        rintro e w1 ⟨rfl, hB1⟩
        have HB1 := hide (HB.out.trans (hB1.mono HB.out.size))
        clear hB1
        go_wp2
        go_ret
        exact ⟨_, rfl, by rw [HA.out]; exact decide_eq_true hi0, HB1.out⟩
      | false =>
        rw [hb] at HF
        have HJ2 := hide (show ∀ j, j < i + 1 → b j = false from fun j hj => by
          rcases Nat.lt_or_ge j i with h | h
          · exact hJ.out j h
          · obtain rfl : j = i := by omega
            exact hb)
        clear hb hJ
        go_wp2_with fail
        (with_reducible refine HF.out.mono ?_)
        rintro e w1 ⟨rfl, hB1⟩
        have HB1 := hide (HB.out.trans (hB1.mono HB.out.size))
        clear hB1
        go_wp2
        go_roundw
        case rel => exact ⟨i + 1, by go_num, hlt, HJ2, HB1.out⟩
        case measure => simp [intOf]; omega
    · obtain rfl : i = n := by omega
      have HB := hide hB
      have HA := hide (show (List.range i).any b = false by
        rw [List.any_eq_false]
        intro j hj
        rw [hJ.out j (List.mem_range.1 hj)]
        simp)
      clear hB hJ
      go_wp2
      go_ret
      exact ⟨-1, rfl, by rw [HA.out]; rfl, HB.out⟩
set_option maxRecDepth 100000 in
set_option maxHeartbeats 1000000 in
theorem cfZ_any (FN : Nat) (el : Nat → Value) (b : Nat → Bool) (n c g o : Nat) (w : World) (hn : n ≤ 4294967296) (hgl : g < w.heap.size) (hc : ∀ i, i < n → w.cell? ⟨g, o + i, none⟩ = some (el i))
    (hcf : ∀ (args : Array Value) (W : World), (callFunc FN args).run Tryz.prog W = .ok (.enter FN args) W)
    (H : Hid (∀ i W, i < n → Below w.heap.size w W → Calls Tryz.prog FN #[(el i)] W fun e W' => e = .returned (.bool (b i)) ∧ Below W.heap.size W W')) :
    Calls Tryz.prog 114 #[.slice (some ⟨g, o, none⟩) n c, .func (.func FN) #[] #[]] w fun e w' => e = .returned (.bool ((List.range n).any b)) ∧ Below w.heap.size w w' := by
  have HI := hide (ifZ_any FN el b n c g o w hn hgl hc hcf H)
  clear hc H hcf
  go_enter Tryz.func114, Tryz.ntmps114
  go_wp2_with fail
  (with_reducible refine HI.out.mono ?_)
  rintro e w1 ⟨z, rfl, hz, hB⟩
  have HZ := hide hz
  have HB := hide hB
  clear hz hB
  go_wp2
  go_ret
  exact ⟨by rw [← HZ.out]; rfl, HB.out⟩
end Go.Proofs.YtpppbkdbpbpinaaGreatDoor
