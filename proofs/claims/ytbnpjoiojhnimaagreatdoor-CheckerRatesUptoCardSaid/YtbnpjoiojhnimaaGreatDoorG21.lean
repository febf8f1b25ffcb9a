import Derived.Test.YtbnpjoiojhnimaaGreatDoorG17
import Derived.Test.YtbnpjoiojhnimaaGreatDoorG20
import Derived.Test.YtbnpjoiojhnimaaGreatDoorG2
import Derived.Test.YtbnpjoiojhnimaaGreatDoorG5
import Derived.Test.YtbnpjoiojhnimaaGreatDoorG3
import Derived.Test.YtbnpjoiojhnimaaGreatDoorG1
import Derived.Lib.Strings
import Derived.BigQuiet
set_option linter.unusedSimpArgs false
set_option linter.unusedVariables false
/- eigenvector.Refute on valid graphs: its contract (printed by wip/mk_evf.py). -/
namespace Go.Proofs.YtbnpjoiojhnimaaGreatDoor
open Go.RowKit Go.Shelf
def aF (m : Int) (es : List Edg) : Nat → Nat → Int := es.foldl (fun acc e => fun i j => if i = e.f.toNat ∧ j = e.t.toNat then acc i j - 1 else acc i j) (fun i j => if j = i then m else 0)
theorem aFsnoc (m : Int) (es : List Edg) (e : Edg) : aF m (es ++ [e]) = fun i j => if i = e.f.toNat ∧ j = e.t.toNat then aF m es i j - 1 else aF m es i j := by
 unfold aF; rw [List.foldl_append]; rfl
theorem aFle (m : Int) (es : List Edg) (i j : Nat) : (aF m es i j).natAbs ≤ m.natAbs + es.length := by
 have key : ∀ (es : List Edg) (acc : Nat → Nat → Int) (C : Nat), (∀ i j, (acc i j).natAbs ≤ C) → ∀ i j, ((es.foldl (fun acc e => fun i j => if i = e.f.toNat ∧ j = e.t.toNat then acc i j - 1 else acc i j) acc) i j).natAbs ≤ C + es.length := by
  intro es
  induction es with
  | nil => intro acc C h i j; have := h i j; simp only [List.foldl_nil, List.length_nil]; omega
  | cons e t ih =>
   intro acc C h i j
   have h1 := ih (fun i j => if i = e.f.toNat ∧ j = e.t.toNat then acc i j - 1 else acc i j) (C + 1) (fun i j => by
    have h2 := h i j
    split <;> omega) i j
   simp only [List.foldl_cons, List.length_cons]
   omega
 exact key es _ m.natAbs (fun i j => by split <;> simp) i j
def rsum (f : Nat → Nat → Int) (s : Nat) : Nat → Int
 | 0 => 0
 | k + 1 => rsum f s k + f s k
def outV (n : Nat) (m : Int) (es : List Edg) : Nat → Int := fun s => rsum (adjF n (aF m es)) s n
theorem rsumle {f : Nat → Nat → Int} {s U : Nat} : ∀ k, (∀ j, j < k → (f s j).natAbs ≤ U) → (rsum f s k).natAbs ≤ k * U
 | 0, _ => by simp [rsum]
 | k + 1, h => by
  have h1 := rsumle k (fun j hj => h j (by omega))
  have h2 := h k (Nat.lt_succ_self _)
  have h3 := Int.natAbs_add_le (rsum f s k) (f s k)
  simp only [rsum, Nat.add_mul, Nat.one_mul]
  omega
set_option maxRecDepth 100000 in
set_option maxHeartbeats 8000000 in
theorem evRefute_ok (L : Int) (n m : Nat) (es : List Edg) (A : Option Addr) (c : Nat) (w : World) (hG : okG L (n : Int) es = true) (hM : okM (m : Int) = true) (hn0 : 0 < n) (hn : n ≤ 32) (he : ∀ e ∈ es, inE n e) (hr : RowE w A es) :
  Calls Tryz.prog 8 #[.agg #[.int .i64 L, .int .i64 (n : Int), .slice A es.length c], .int .i64 (m : Int)] w fun e w' => Below w.heap.size w w' ∧
   ((refB n es m (outV n m es) = true ∧ ∃ G, e = .returned (.tuple #[.slice (some ⟨G, 0, none⟩) n n, .int .i64 0]) ∧ w.heap.size ≤ G ∧ SRow w' G (rowL n (outV n m es))) ∨
    (refB n es m (outV n m es) = false ∧ e = .returned (.tuple #[.slice none 0 0, .int .i64 15]))) := by
 have hm : 1 ≤ m ∧ m ≤ 256 := by
  unfold okM at hM
  simp only [Bool.and_eq_true, decide_eq_true_eq] at hM
  omega
 obtain ⟨_, _, hl⟩ := okG_size hG
 have hB0 : Below w.heap.size w (w.alloc (.cells #[.int .i64 L, .int .i64 (n : Int), .slice A es.length c] 24)) := (Below.refl _ w).alloc (Nat.le_refl _) _
 have hb0 : (w.alloc (.cells #[.int .i64 L, .int .i64 (n : Int), .slice A es.length c] 24)).heap[w.heap.size]? = some (.cells #[.int .i64 L, .int .i64 (n : Int), .slice A es.length c] 24 (0, 0)) := heap_alloc_new w _
 have HW := hide (evWhole_any L n m es A c (w.alloc (.cells #[.int .i64 L, .int .i64 (n : Int), .slice A es.length c] 24)) (hr.below hB0))
 rw [hG, hM, Bool.true_and] at HW
 have HBx := hide (fun W (hW : Below (w.alloc (.cells #[.int .i64 L, .int .i64 (n : Int), .slice A es.length c] 24)).heap.size (w.alloc (.cells #[.int .i64 L, .int .i64 (n : Int), .slice A es.length c] 24)) W) => show Below w.heap.size w W from hB0.trans (hW.mono hB0.size))
 have HR := hide (fun W (hW : Below w.heap.size w W) => hr.below hW)
 have HE := hide he
 have hn7 : n ≤ 70000 := by omega
 have hmk := fun W => run_make_heads n hn7 W n (fun _ => 0)
 have hmk2 := fun W => run_make_ss n hn7 W
 have HOm := hide (fun W => iOf_g m (by omega) W)
 have HO1 := hide (fun W => iOf_1 W)
 obtain ⟨Z, hZ⟩ : ∃ Z, w.heap.size = Z := ⟨_, rfl⟩
 rw [hZ] at hb0
 have hZl : Z < (w.alloc (.cells #[.int .i64 L, .int .i64 (n : Int), .slice A es.length c] 24)).heap.size := by rw [← hZ]; simp
 have HZ := hide hZ
 have hne0 : ((n : Int) == 0) = false := by rw [beq_eq_false_iff_ne]; omega
 have hgt : decide ((32 : Int) < (n : Int)) = false := decide_eq_false (by omega)
 clear hr hZ hB0 he hG hM
 go_enter Tryz.func8, Tryz.ntmps8
 go_wp2_with fail
 try rw [HZ.out]
 generalize w.alloc (.cells #[.int .i64 L, .int .i64 (n : Int), .slice A es.length c] 24) = W0 at hb0 hZl HW HBx ⊢
 have g0 : W0.cell? ⟨Z, 0, none⟩ = some (.int .i64 L) := by rw [cell_of_row _ _ 0 _ 24 (0, 0) hb0]; rfl
 have g1 : W0.cell? ⟨Z, 1, none⟩ = some (.int .i64 (n : Int)) := by rw [cell_of_row _ _ 1 _ 24 (0, 0) hb0]; rfl
 have g2 : W0.cell? ⟨Z, 2, none⟩ = some (.slice A es.length c) := by rw [cell_of_row _ _ 2 _ 24 (0, 0) hb0]; rfl
 clear hb0
 (with_reducible refine HW.out.mono ?_)
 rintro e w1 ⟨r, rfl, hr0, hB1⟩
 have hrn : (r != 0) = false := by rw [bne_eq_false_iff_eq]; exact beq_iff_eq.1 hr0
 have HB1 := hide (HBx.out _ hB1)
 have s0 := (hB1.cell (p := ⟨Z, 0, none⟩) hZl).trans g0
 have s1 := (hB1.cell (p := ⟨Z, 1, none⟩) hZl).trans g1
 have s2 := (hB1.cell (p := ⟨Z, 2, none⟩) hZl).trans g2
 have hZl1 := Nat.lt_of_lt_of_le hZl hB1.size
 clear g0 g1 g2 hB1 hZl hr0 HW HBx
 have HGr := hide (show ∀ W, Below w1.heap.size w1 W → W.cell? ⟨Z, 0, none⟩ = some (.int .i64 L) ∧ W.cell? ⟨Z, 1, none⟩ = some (.int .i64 (n : Int)) ∧ W.cell? ⟨Z, 2, none⟩ = some (.slice A es.length c) from fun W hW =>
  ⟨(hW.cell (p := ⟨Z, 0, none⟩) hZl1).trans s0, (hW.cell (p := ⟨Z, 1, none⟩) hZl1).trans s1, (hW.cell (p := ⟨Z, 2, none⟩) hZl1).trans s2⟩)
 go_wp2
 obtain ⟨G, hGG⟩ : ∃ G, w1.heap.size = G := ⟨_, rfl⟩
 have hW1 : Heads (w1.alloc (.cells (heads n n 0 (fun _ => 0)).toArray 35)) G n n 0 (fun _ => 0) := by rw [← hGG]; exact Heads.new_ _ _ _ _ _
 have hW2 : Below G w1 (w1.alloc (.cells (heads n n 0 (fun _ => 0)).toArray 35)) := by rw [← hGG]; exact (Below.refl _ w1).alloc (Nat.le_refl _) _
 rw [hGG] at HGr hZl1 ⊢
 have HGG := hide hGG
 clear hGG s0 s1 s2
 generalize w1.alloc (.cells (heads n n 0 (fun _ => 0)).toArray 35) = W1 at hW1 hW2 ⊢
 go_loopw [35] (fun iv wr => ∃ (i : Nat) (rs : Nat → Nat), iv = .int .i64 i ∧ i ≤ n ∧ Heads wr G n n i rs ∧ Hid (∀ j, j < i → SRow wr (rs j) (rowL n (fun k => if k = j then (m : Int) else 0)) ∧ G < rs j ∧ ∀ j', j' < j → rs j' < rs j) ∧ Below G w1 wr) (fun iv _ => n - (intOf iv).toNat)
 case atStart => exact ⟨0, _, rfl, Nat.zero_le _, hW1, hide fun j h => absurd h (by omega), hW2⟩
 case round =>
  obtain ⟨i, rs, rfl, hi, hH, hR, hB⟩ := hrel
  clear hW1 hW2
  obtain ⟨s0, s1, s2⟩ := HGr.out wr hB
  by_cases hlt : i < n
  ·have hi0 : (0 : Int) ≤ (i : Int) := by omega
   have hi1 : (i : Int) < (n : Int) := by omega
   obtain ⟨R, hRR⟩ : ∃ R, wr.heap.size = R := ⟨_, rfl⟩
   have hGR : G < R := by rw [← hRR]; exact hH.lt
   obtain ⟨v0, hv0⟩ := hH.some_ hlt
   have hf0 := hH.free_ i
   have hPut := hH.put hlt R
   have hsz : (wr.setCell ⟨G, i, none⟩ (.slice (some ⟨R, 0, none⟩) n n)).heap.size = R := by rw [← hRR]; simp
   have hAl : Below R (wr.setCell ⟨G, i, none⟩ (.slice (some ⟨R, 0, none⟩) n n)) ((wr.setCell ⟨G, i, none⟩ (.slice (some ⟨R, 0, none⟩) n n)).alloc (.cells (scells (List.replicate n 0)).toArray 55)) := (Below.refl _ _).alloc (Nat.le_of_eq hsz.symm) _
   have hH2 := hPut.below hAl hGR
   have hRow : SRow ((wr.setCell ⟨G, i, none⟩ (.slice (some ⟨R, 0, none⟩) n n)).alloc (.cells (scells (List.replicate n 0)).toArray 55)) R (List.replicate n 0) := by
    have := SRow.new_ (wr.setCell ⟨G, i, none⟩ (.slice (some ⟨R, 0, none⟩) n n)) (List.replicate n 0)
    rw [hsz] at this
    exact this
   have hR2 := hide (show ∀ j, j < i → SRow ((wr.setCell ⟨G, i, none⟩ (.slice (some ⟨R, 0, none⟩) n n)).alloc (.cells (scells (List.replicate n 0)).toArray 55)) (rs j) (rowL n (fun k => if k = j then (m : Int) else 0)) ∧ G < rs j ∧ (∀ j', j' < j → rs j' < rs j) ∧ rs j < R from fun j hj => by
    obtain ⟨h1, h2, h4⟩ := hR.out j hj
    have h3 : rs j < R := by rw [← hRR]; exact h1.lt
    exact ⟨(h1.other1 (by omega) _ _).below hAl h3, h2, h4, h3⟩)
   have hB2 : Below G w1 ((wr.setCell ⟨G, i, none⟩ (.slice (some ⟨R, 0, none⟩) n n)).alloc (.cells (scells (List.replicate n 0)).toArray 55)) := (hB.setCell (p := ⟨G, i, none⟩) (Nat.le_refl _) _).trans (hAl.mono (by omega))
   clear hsz hAl hPut hR
   go_wp2_with fail
   generalize (wr.setCell ⟨G, i, none⟩ (.slice (some ⟨R, 0, none⟩) n n)).alloc (.cells (scells (List.replicate n 0)).toArray 55) = W2 at hH2 hRow hR2 hB2 ⊢
   have hc := hH2.cell (j := i) hlt (by omega)
   rw [if_pos rfl] at hc
   have HH := hide hH2
   have HRw := hide hRow
   have HB2 := hide hB2
   clear hH hB hv0 hf0 v0 hRR s0 s1 s2 hH2 hRow hB2
   have hcd : W2.drew.cell? ⟨G, i, none⟩ = some (.slice (some ⟨R, 0, none⟩) n n) := hc
   have hGw : G < W2.drew.heap.size := HH.out.lt
   have hGR1 : G + 1 ≤ R := hGR
   have lG : G < G + 1 := Nat.lt_succ_self _
   have hkl : i < (List.replicate n (0 : Int)).length := by rw [List.length_replicate]; exact hlt
   go_region_held3 (fun W => W.cell? ⟨G, i, none⟩ = some (.slice (some ⟨R, 0, none⟩) n n))
    (first | with_reducible exact hcd | with_reducible exact ((Below.pairG (Below.refl (G + 1) _) hGR1 _ _ _ _).cell (p := ⟨G, i, none⟩) lG).trans hcd)
    ((go_at_call 18; (with_reducible refine (HOm.out _).mono ?_); rintro e w3 ⟨rfl, hB3⟩; replace hcd := (hB3.cell (p := ⟨G, i, none⟩) hGw).trans hcd; have hq := SRow.belowS (w := W2.drew) HRw.out hB3; have y0 := hq.c0 hkl; have y1 := hq.c1 hkl; have z0 := hq.free_ (i * 2); have z1 := hq.free_ (i * 2 + 1)))
   all_goals (
    have hS := hq.set_ hkl (m : Int)
    have hH3 := (Heads.below (w := W2.drew) HH.out hB3 hGw).other (Nat.ne_of_lt hGR) (i * 2) (i * 2 + 1) (.bool (ng (m : Int))) (.string (mgI (m : Int)))
    have hB4 := Below.pairG (HB2.out.trans ((Below.refl G W2).drew.trans (hB3.mono (Nat.le_of_lt hGw)))) (Nat.le_of_lt hGR) (i * 2) (i * 2 + 1) (.bool (ng (m : Int))) (.string (mgI (m : Int)))
    have hR3 := hide (show ∀ j, j < i + 1 → SRow ((w3.setCell ⟨R, i * 2, none⟩ (.bool (ng (m : Int)))).setCell ⟨R, i * 2 + 1, none⟩ (.string (mgI (m : Int)))) (if j = i then R else rs j) (rowL n (fun k => if k = j then (m : Int) else 0)) ∧ G < (if j = i then R else rs j) ∧ ∀ j', j' < j → (if j' = i then R else rs j') < (if j = i then R else rs j) from fun j hj => by
     by_cases e : j = i
     ·subst e
      rw [if_pos rfl]
      refine ⟨?_, hGR, fun j' hj' => ?_⟩
      ·have e3 := rowL_set (n := n) (f := fun _ => 0) (k := j) (v := (m : Int)) (g := fun k => if k = j then (m : Int) else 0) (if_pos rfl) (fun a _ hne => by simp only [if_neg hne])
       rw [← e3, rowL_zero]
       exact hS
      ·rw [if_neg (by omega)]
       exact (hR2.out j' hj').2.2.2
     ·rw [if_neg e]
      obtain ⟨h1, h2, h4, h3⟩ := hR2.out j (by omega)
      refine ⟨(SRow.belowS (w := W2.drew) h1 hB3).other (Nat.ne_of_lt h3) _ _ _ _, h2, fun j' hj' => ?_⟩
      rw [if_neg (by omega)]
      exact h4 j' hj')
    have HH3 := hide hH3
    have HB4 := hide hB4
    clear hcd hq y0 y1 z0 z1 hR2 hH3 hB4 hS hB3
    go_wp2
    go_roundw
    case rel => exact ⟨i + 1, _, by go_num, hlt, HH3.out, hR3, HB4.out⟩
    case measure => simp [intOf]; omega)
  ·obtain rfl : i = n := by omega
   have HH := hide hH
   have HBi := hide hB
   have hinj := hide (show ∀ a b, a < i → b < i → a ≠ b → rs a ≠ rs b from fun a b ha hb hab => by
    rcases Nat.lt_or_ge a b with h | h
    ·have := (hR.out b hb).2.2 a h; omega
    ·have := (hR.out a ha).2.2 b (by omega); omega)
   clear hH hB
   obtain ⟨W9, rfl⟩ : ∃ W9, W9 = wr := ⟨_, rfl⟩
   go_wp2
   go_loopw [56] (fun qv wr2 => ∃ q : Nat, qv = .int .i64 q ∧ q ≤ es.length ∧ Heads wr2 G i i i rs ∧ Hid (∀ j, j < i → SRow wr2 (rs j) (rowL i (aF m (es.take q) j)) ∧ G < rs j) ∧ Below G w1 wr2) (fun qv _ => es.length - (intOf qv).toNat)
   case atStart => exact ⟨0, rfl, Nat.zero_le _, HH.out, hide fun j hj => ⟨(hR.out j hj).1, (hR.out j hj).2.1⟩, HBi.out⟩
   case round =>
    obtain ⟨q, rfl, hq, hH, hR4, hB⟩ := hrel
    clear hR HH HBi s0 s1 s2
    obtain ⟨wr2, rfl⟩ : ∃ wr2, wr2 = wr := ⟨_, rfl⟩
    obtain ⟨t0, t1, t2⟩ := HGr.out wr2 hB
    have hBw : Below w.heap.size w wr2 := HB1.out.trans (hB.mono (by have := HB1.out.size; have := HGG.out; omega))
    by_cases hqe : q < es.length
    ·obtain ⟨b, oe, rfl, hbl, hcell⟩ := HR.out wr2 hBw (by omega)
     obtain ⟨a0, a1, a2⟩ := hcell q hqe
     have hq0 : (0 : Int) ≤ (q : Int) := by omega
     have hq1 : (q : Int) < (es.length : Int) := by omega
     obtain ⟨e0, e1, e2, e3⟩ := HE.out es[q] (List.getElem_mem hqe)
     have HTk := hide (List.take_succ_eq_append_getElem hqe)
     have hxle := aFle m (es.take q)
     obtain ⟨e, hee⟩ : ∃ e, es[q] = e := ⟨_, rfl⟩
     rw [hee] at a0 a1 a2 e0 e1 e2 e3 HTk
     obtain ⟨f, hf⟩ : ∃ f : Nat, e.f = (f : Int) := ⟨e.f.toNat, by omega⟩
     obtain ⟨t, ht⟩ : ∃ t : Nat, e.t = (t : Int) := ⟨e.t.toNat, by omega⟩
     obtain ⟨l, hel⟩ : ∃ l, e.l = l := ⟨_, rfl⟩
     have hfn : f < i := by omega
     have htn : t < i := by omega
     have hft : e.f.toNat = f := by omega
     have htt : e.t.toNat = t := by omega
     rw [hf] at a0
     rw [hel] at a1
     rw [ht] at a2
     have hS := (hR4.out f hfn).1
     have hGf := (hR4.out f hfn).2
     have htl : t < (rowL i (aF m (es.take q) f)).length := by rw [rowL_len]; exact htn
     have p0 := hS.c0 htl
     have p1 := hS.c1 htl
     have hxv := hide (show (rowL i (aF m (es.take q) f)).getD t 0 = aF m (es.take q) f t from rowL_get htn)
     obtain ⟨x, hx⟩ : ∃ x, aF m (es.take q) f t = x := ⟨_, rfl⟩
     have hxb := hxle f t
     rw [List.length_take, Nat.min_eq_left hq] at hxb
     rw [hx] at hxv hxb
     rw [hxv.out] at p0 p1
     have HSub := hide (fun W => iSub_g x 1 W (Sml.of64 (by omega)) (Sml.of64 (by decide)))
     have HNx := hide (show aF m (es.take (q + 1)) = fun i' j' => if i' = f ∧ j' = t then x - 1 else aF m (es.take q) i' j' by
      rw [HTk.out, aFsnoc, hft, htt]
      funext i' j'
      split
      ·rename_i h; obtain ⟨h1, h2⟩ := h; subst h1 h2; rw [hx]
      ·rfl)
     have hhd := hH.cell (j := f) hfn hfn
     have hA : Below wr2.heap.size wr2 (wr2.alloc (.cells #[.int .i64 (f : Int), .int .i64 l, .int .i64 (t : Int)] 72)) := (Below.refl _ wr2).alloc (Nat.le_refl _) _
     have hx_ := heap_alloc_new wr2 (.cells #[.int .i64 (f : Int), .int .i64 l, .int .i64 (t : Int)] 72)
     have hHx := hH.belowS hA
     have hRx := hide (show ∀ j, j < i → SRow (wr2.alloc (.cells #[.int .i64 (f : Int), .int .i64 l, .int .i64 (t : Int)] 72)) (rs j) (rowL i (aF m (es.take q) j)) ∧ G < rs j from fun j hj => ⟨(hR4.out j hj).1.belowS hA, (hR4.out j hj).2⟩)
     have hBx := hB.trans (hA.mono (show G ≤ wr2.heap.size by have := hH.lt; omega))
     have q0 := (hA.cell (p := ⟨rs f, t * 2, none⟩) hS.lt).trans p0
     have q1 := (hA.cell (p := ⟨rs f, t * 2 + 1, none⟩) hS.lt).trans p1
     have hhx := (hA.cell (p := ⟨G, f, none⟩) hH.lt).trans hhd
     have hrl := hS.lt
     have hGl := hH.lt
     have hxs : (wr2.alloc (.cells #[.int .i64 (f : Int), .int .i64 l, .int .i64 (t : Int)] 72)).heap.size = wr2.heap.size + 1 := by simp
     have f0 : (0 : Int) ≤ (f : Int) := by omega
     have f1 : (f : Int) < (i : Int) := by omega
     have d0 : (0 : Int) ≤ (t : Int) := by omega
     have d1 : (t : Int) < (i : Int) := by omega
     clear hee hf ht hel hft htt hx hxb hxle p0 p1 e0 e1 e2 e3 hcell hB hS hA hH hR4 hhd hBw t0 t1 t2
     go_wp2_with fail
     obtain ⟨X, hXX⟩ : ∃ X, wr2.heap.size = X := ⟨_, rfl⟩
     rw [hXX] at hx_ hrl hGl hxs ⊢
     have x0 : (wr2.alloc (.cells #[.int .i64 (f : Int), .int .i64 l, .int .i64 (t : Int)] 72)).cell? ⟨X, 0, none⟩ = some (.int .i64 (f : Int)) := by rw [cell_of_row _ _ 0 _ 72 (0, 0) hx_]; rfl
     have x2 : (wr2.alloc (.cells #[.int .i64 (f : Int), .int .i64 l, .int .i64 (t : Int)] 72)).cell? ⟨X, 2, none⟩ = some (.int .i64 (t : Int)) := by rw [cell_of_row _ _ 2 _ 72 (0, 0) hx_]; rfl
     generalize wr2.alloc (.cells #[.int .i64 (f : Int), .int .i64 l, .int .i64 (t : Int)] 72) = Wx at hx_ hHx hRx hBx q0 q1 hhx hxs x0 x2 ⊢
     have hPx : SRow Wx (rs f) (rowL i (aF m (es.take q) f)) := (hRx.out f hfn).1
     have hSb := hide (show ∀ W1 : World, (∀ b, b ≠ rs f → b < Wx.heap.size → W1.heap[b]? = Wx.heap[b]?) → (fun W' : World => W'.cell? ⟨X, 0, none⟩ = some (.int .i64 (f : Int)) ∧ W'.cell? ⟨X, 2, none⟩ = some (.int .i64 (t : Int)) ∧ W'.cell? ⟨G, f, none⟩ = some (.slice (some ⟨rs f, 0, none⟩) i i)) W1 from fun W1 hW1 => ⟨(World.cell?_of_block (hW1 X (by omega) (by omega))).trans x0, (World.cell?_of_block (hW1 X (by omega) (by omega))).trans x2, (World.cell?_of_block (hW1 G (by omega) (by omega))).trans hhx⟩)
     have q0d : Wx.drew.cell? ⟨rs f, t * 2, none⟩ = some (.bool (ng x)) := q0
     have q1d : Wx.drew.cell? ⟨rs f, t * 2 + 1, none⟩ = some (.string (mgI x)) := q1
     have hHx := hide hHx
     have hBx := hide hBx
     have hNewB := hide (fun w3 (hB23 : Below Wx.drew.heap.size Wx.drew w3) => show (Heads ((w3.setCell ⟨rs f, t * 2, none⟩ (.bool (ng (x - 1)))).setCell ⟨rs f, t * 2 + 1, none⟩ (.string (mgI (x - 1)))) G i i i rs) ∧ (∀ j, j < i → SRow ((w3.setCell ⟨rs f, t * 2, none⟩ (.bool (ng (x - 1)))).setCell ⟨rs f, t * 2 + 1, none⟩ (.string (mgI (x - 1)))) (rs j) (rowL i (aF m (es.take (q + 1)) j)) ∧ G < rs j) ∧ Below G w1 ((w3.setCell ⟨rs f, t * 2, none⟩ (.bool (ng (x - 1)))).setCell ⟨rs f, t * 2 + 1, none⟩ (.string (mgI (x - 1)))) by
      refine ⟨(Heads.belowS (w := Wx.drew) hHx.out hB23).other (by omega) _ _ _ _, fun j hj => ⟨?_, (hRx.out j hj).2⟩, Below.pairG (hBx.out.trans ((Below.refl G Wx).drew.trans (hB23.mono (show G ≤ Wx.heap.size by omega)))) (by omega) _ _ _ _⟩
      by_cases e : j = f
      ·subst e
       have hset := (SRow.belowS (w := Wx.drew) (hRx.out j hj).1 hB23).set_ htl (x - 1)
       rw [HNx.out]
       show SRow _ _ (rowL i (fun j' => if j = j ∧ j' = t then x - 1 else aF m (es.take q) j j'))
       have e3 := rowL_set (n := i) (f := aF m (es.take q) j) (k := t) (v := x - 1) (g := fun j' => if j = j ∧ j' = t then x - 1 else aF m (es.take q) j j') (if_pos ⟨rfl, rfl⟩) (fun a _ hne => by rw [if_neg (fun h => hne h.2)])
       rw [e3] at hset
       exact hset
      ·have h1 := (SRow.belowS (w := Wx.drew) (hRx.out j hj).1 hB23).other (R := rs f) (hinj.out j f hj hfn e) (t * 2) (t * 2 + 1) (.bool (ng (x - 1))) (.string (mgI (x - 1)))
       rw [HNx.out]
       show SRow _ _ (rowL i (fun j' => if j = f ∧ j' = t then x - 1 else aF m (es.take q) j j'))
       have e3 : (fun j' => if j = f ∧ j' = t then x - 1 else aF m (es.take q) j j') = aF m (es.take q) j := by
        funext j'
        rw [if_neg (fun h => e h.1)]
       rw [e3]
       exact h1)
     clear hx_ x0 x2 hXX q0 q1 hhx hRx
     refine wp_region_noPanic ?_
     refine wp_region_held_drew (S := fun W' => W'.cell? ⟨X, 0, none⟩ = some (.int .i64 (f : Int)) ∧ W'.cell? ⟨X, 2, none⟩ = some (.int .i64 (t : Int)) ∧ W'.cell? ⟨G, f, none⟩ = some (.slice (some ⟨rs f, 0, none⟩) i i)) (by kernel_rfl) (hSb.out _ fun b _ hb => rfl) (fun hHeld => ?_)
     refine wpAnyH_take (i := 0) (oi := _) (v := ?v0) rfl (by kernel_rfl) (by kernel_rfl) (by kernel_rfl) (fun _ _ _ h => h) (Or.inl ⟨by rfl, ?hy0⟩) (by assumption) ?rest0
     case hy0 => (intro w hSw; (try dsimp only at hSw); go_simp; (try with_reducible rfl))
     (try simp only [List.getElem_toArray, List.getElem_cons_zero, Act.put, List.setIfInBounds_toArray, List.set_cons_zero, List.set_cons_succ])
     refine wpAnyH_take (i := 1) (oi := _) (v := ?v1) rfl (by kernel_rfl) (by kernel_rfl) (by kernel_rfl) (fun _ _ _ h => h) (Or.inl ⟨by rfl, ?hy1⟩) (by assumption) ?rest1
     case hy1 => (intro w hSw; (try dsimp only at hSw); go_simp; (try with_reducible rfl))
     (try simp only [List.getElem_toArray, List.getElem_cons_zero, List.getElem_cons_succ, Act.put, List.setIfInBounds_toArray, List.set_cons_zero, List.set_cons_succ])
     refine wpAnyH_take (i := 2) (oi := _) (v := ?v2) rfl (by kernel_rfl) (by kernel_rfl) (by kernel_rfl) (fun _ _ _ h => h) (Or.inl ⟨by rfl, ?hy2⟩) (by assumption) ?rest2
     case hy2 => (intro w hSw; (try dsimp only at hSw); go_simp; (try with_reducible rfl))
     (try simp only [List.getElem_toArray, List.getElem_cons_zero, List.getElem_cons_succ, Act.put, List.setIfInBounds_toArray, List.set_cons_zero, List.set_cons_succ])
     refine wpAnyH_take (i := 3) (oi := _) (v := ?v3) rfl (by kernel_rfl) (by kernel_rfl) (by kernel_rfl) (fun _ _ _ h => h) (Or.inl ⟨by rfl, ?hy3⟩) (by assumption) ?rest3
     case hy3 => (intro w hSw; (try dsimp only at hSw); go_simp; (try with_reducible rfl))
     (try simp only [List.getElem_toArray, List.getElem_cons_zero, List.getElem_cons_succ, Act.put, List.setIfInBounds_toArray, List.set_cons_zero, List.set_cons_succ])
     refine wpAnyH_take (i := 4) (oi := _) (v := ?v4) rfl (by kernel_rfl) (by kernel_rfl) (by kernel_rfl) (fun _ _ _ h => h) (Or.inl ⟨by rfl, ?hy4⟩) (by assumption) ?rest4
     case hy4 => (intro w hSw; (try dsimp only at hSw); go_simp; (try with_reducible rfl))
     (try simp only [List.getElem_toArray, List.getElem_cons_zero, List.getElem_cons_succ, Act.put, List.setIfInBounds_toArray, List.set_cons_zero, List.set_cons_succ])
     refine wpAnyH_take (i := 5) (oi := _) (v := ?v5) rfl (by kernel_rfl) (by kernel_rfl) (by kernel_rfl) (fun _ _ _ h => h) (Or.inl ⟨by rfl, ?hy5⟩) (by assumption) ?rest5
     case hy5 => (intro w hSw; (try dsimp only at hSw); go_simp; (try with_reducible rfl))
     (try simp only [List.getElem_toArray, List.getElem_cons_zero, List.getElem_cons_succ, Act.put, List.setIfInBounds_toArray, List.set_cons_zero, List.set_cons_succ])
     refine wpAnyH_take (i := 6) (oi := _) (v := ?v6) rfl (by kernel_rfl) (by kernel_rfl) (by kernel_rfl) (fun _ _ _ h => h) (Or.inl ⟨by rfl, ?hy6⟩) (by assumption) ?rest6
     case hy6 => (intro w hSw; (try dsimp only at hSw); go_simp; (try with_reducible rfl))
     (try simp only [List.getElem_toArray, List.getElem_cons_zero, List.getElem_cons_succ, Act.put, List.setIfInBounds_toArray, List.set_cons_zero, List.set_cons_succ])
     refine wpAnyH_take (i := 7) (oi := _) (v := ?v7) rfl (by kernel_rfl) (by kernel_rfl) (by kernel_rfl) (fun _ _ _ h => h) (Or.inl ⟨by rfl, ?hy7⟩) (by assumption) ?rest7
     case hy7 => (intro w hSw; (try dsimp only at hSw); go_simp; (try with_reducible rfl))
     (try simp only [List.getElem_toArray, List.getElem_cons_zero, List.getElem_cons_succ, Act.put, List.setIfInBounds_toArray, List.set_cons_zero, List.set_cons_succ])
     refine wpAnyH_take (i := 8) (oi := _) (v := ?v8) rfl (by kernel_rfl) (by kernel_rfl) (by kernel_rfl) (fun _ _ _ h => h) (Or.inl ⟨by rfl, ?hy8⟩) (by assumption) ?rest8
     case hy8 => (intro w hSw; (try dsimp only at hSw); go_simp; (try with_reducible rfl))
     (try simp only [List.getElem_toArray, List.getElem_cons_zero, List.getElem_cons_succ, Act.put, List.setIfInBounds_toArray, List.set_cons_zero, List.set_cons_succ])
     refine wpAnyH_take (i := 9) (oi := _) (v := ?v9) rfl (by kernel_rfl) (by kernel_rfl) (by kernel_rfl) (fun _ _ _ h => h) (Or.inl ⟨by rfl, ?hy9⟩) (by assumption) ?rest9
     case hy9 => (intro w hSw; (try dsimp only at hSw); go_simp; (try with_reducible rfl))
     (try simp only [List.getElem_toArray, List.getElem_cons_zero, List.getElem_cons_succ, Act.put, List.setIfInBounds_toArray, List.set_cons_zero, List.set_cons_succ])
     refine wpAnyH_take (i := 10) (oi := _) (v := ?v10) rfl (by kernel_rfl) (by kernel_rfl) (by kernel_rfl) (fun _ _ _ h => h) (Or.inl ⟨by rfl, ?hy10⟩) (by assumption) ?rest10
     case hy10 => (intro w hSw; (try dsimp only at hSw); go_simp; (try with_reducible rfl))
     (try simp only [List.getElem_toArray, List.getElem_cons_zero, List.getElem_cons_succ, Act.put, List.setIfInBounds_toArray, List.set_cons_zero, List.set_cons_succ])
     refine wpAnyH_take (i := 11) (oi := _) (v := ?v11) rfl (by kernel_rfl) (by kernel_rfl) (by kernel_rfl) (fun _ _ _ h => h) (Or.inl ⟨by rfl, ?hy11⟩) (by assumption) ?rest11
     case hy11 => (intro w hSw; (try dsimp only at hSw); go_simp; (try with_reducible rfl))
     (try simp only [List.getElem_toArray, List.getElem_cons_zero, List.getElem_cons_succ, Act.put, List.setIfInBounds_toArray, List.set_cons_zero, List.set_cons_succ])
     refine wpAnyH_take (i := 12) (oi := _) (v := ?v12) rfl (by kernel_rfl) (by kernel_rfl) (by kernel_rfl) (fun _ _ _ h => h) (Or.inl ⟨by rfl, ?hy12⟩) (by assumption) ?rest12
     case hy12 => (intro w hSw; (try dsimp only at hSw); go_simp; (try with_reducible rfl))
     (try simp only [List.getElem_toArray, List.getElem_cons_zero, List.getElem_cons_succ, Act.put, List.setIfInBounds_toArray, List.set_cons_zero, List.set_cons_succ])
     refine wpAnyH_take (i := 13) (oi := _) (v := ?v13) rfl (by kernel_rfl) (by kernel_rfl) (by kernel_rfl) (fun _ _ _ h => h) (Or.inl ⟨by rfl, ?hy13⟩) (by assumption) ?rest13
     case hy13 => (intro w hSw; (try dsimp only at hSw); go_simp; (try with_reducible rfl))
     (try simp only [List.getElem_toArray, List.getElem_cons_zero, List.getElem_cons_succ, Act.put, List.setIfInBounds_toArray, List.set_cons_zero, List.set_cons_succ])
     refine wpAnyH_take (i := 14) (oi := _) (v := ?v14) rfl (by kernel_rfl) (by kernel_rfl) (by kernel_rfl) (fun _ _ _ h => h) (Or.inl ⟨by rfl, ?hy14⟩) (by assumption) ?rest14
     case hy14 => (intro w hSw; (try dsimp only at hSw); go_simp; (try with_reducible rfl))
     (try simp only [List.getElem_toArray, List.getElem_cons_zero, List.getElem_cons_succ, Act.put, List.setIfInBounds_toArray, List.set_cons_zero, List.set_cons_succ])
     refine wpAnyH_ready (rs := [15, 16]) (by kernel_rfl) (by simp) ?_
     refine AllReadyH.cons (o := _) rfl (fun K hK => ?_) (AllReadyH.cons (o := _) rfl (fun K hK => ?_) AllReadyH.nil)
     ·go_simp
      refine hK.out _ _ ?_ (fun hHeld => ?_)
      ·exact hHeld
      clear hK K
      (try simp only [List.getElem_toArray, List.getElem_cons_zero, List.getElem_cons_succ, Act.put, List.setIfInBounds_toArray, List.set_cons_zero, List.set_cons_succ])
      refine wpAnyH_ready (rs := [16]) (by kernel_rfl) (by simp) ?_
      refine AllReadyH.cons (o := _) rfl (fun K hK => ?_) AllReadyH.nil
      go_simp
      (with_reducible refine (HO1.out _).mono ?_)
      rintro en w2 ⟨rfl, hB2⟩
      have hS2 := hide (hSb.out w2 fun b _ hb => hB2.block b hb)
      have hP2 := SRow.belowS (w := Wx.drew) hPx hB2
      have k0 := hP2.c0 htl
      have k1 := hP2.c1 htl
      rw [hxv.out] at k0 k1
      (try go_wp2_with fail)
      refine hK.out _ _ ?_ (fun hHeld => ?_)
      ·exact hS2.out
      clear hK K
      (try simp only [List.getElem_toArray, List.getElem_cons_zero, List.getElem_cons_succ, Act.put, List.setIfInBounds_toArray, List.set_cons_zero, List.set_cons_succ])
      refine wpAnyH_ready (rs := [17]) (by kernel_rfl) (by simp) ?_
      refine AllReadyH.cons (o := _) rfl (fun K hK => ?_) AllReadyH.nil
      go_simp
      (with_reducible refine (HSub.out _).mono ?_)
      rintro en w3 ⟨rfl, hB3⟩
      have hB23 := hB2.trans (hB3.mono hB2.size)
      have hS3 := hide (hSb.out w3 fun b _ hb => hB23.block b hb)
      have hP3 := SRow.belowS (w := Wx.drew) hPx hB23
      have l0 := hP3.c0 htl
      have l1 := hP3.c1 htl
      have m0 := hP3.free_ (t * 2)
      have m1 := hP3.free_ (t * 2 + 1)
      (try go_wp2_with fail)
      refine hK.out _ _ ?_ (fun hHeld => ?_)
      ·exact hS3.out
      clear hK K
      (try simp only [List.getElem_toArray, List.getElem_cons_zero, List.getElem_cons_succ, Act.put, List.setIfInBounds_toArray, List.set_cons_zero, List.set_cons_succ])
      refine wpAnyH_take (i := 18) (oi := _) (v := ?v18) rfl (by kernel_rfl) (by kernel_rfl) (by kernel_rfl) (fun _ _ _ h => h) (Or.inl ⟨by rfl, ?hy18⟩) (by assumption) ?rest18
      case hy18 => (intro w hSw; (try dsimp only at hSw); go_simp; (try with_reducible rfl))
      (try simp only [List.getElem_toArray, List.getElem_cons_zero, List.getElem_cons_succ, Act.put, List.setIfInBounds_toArray, List.set_cons_zero, List.set_cons_succ])
      refine wpAnyH_ready (rs := [19]) (by kernel_rfl) (by simp) ?_
      refine AllReadyH.cons (o := _) rfl (fun K hK => ?_) AllReadyH.nil
      go_simp
      refine hK.out _ _ ?_ (fun hHeld => ?_)
      ·exact hSb.out _ fun b hne hb => (Below.heap_setCell _ ⟨rs f, t * 2 + 1, none⟩ _ b hne).trans ((Below.heap_setCell _ ⟨rs f, t * 2, none⟩ _ b hne).trans (hB23.block b hb))
      clear hK K
      (try simp only [List.getElem_toArray, List.getElem_cons_zero, List.getElem_cons_succ, Act.put, List.setIfInBounds_toArray, List.set_cons_zero, List.set_cons_succ])
      refine wpAnyH_done (by kernel_rfl) ?_ _
      refine NoPanic.normal ?_
      have hnew := hide (hNewB.out w3 hB23)
      clear hB23 hP3 l0 l1 m0 m1
      go_wp2
      go_roundw
      case rel => exact ⟨q + 1, by go_num, hqe, hnew.out.1, hide hnew.out.2.1, hnew.out.2.2⟩
      case measure => simp [intOf]; omega
     ·go_simp
      (with_reducible refine (HO1.out _).mono ?_)
      rintro en w2 ⟨rfl, hB2⟩
      have hS2 := hide (hSb.out w2 fun b _ hb => hB2.block b hb)
      have hP2 := SRow.belowS (w := Wx.drew) hPx hB2
      have k0 := hP2.c0 htl
      have k1 := hP2.c1 htl
      rw [hxv.out] at k0 k1
      (try go_wp2_with fail)
      refine hK.out _ _ ?_ (fun hHeld => ?_)
      ·exact hS2.out
      clear hK K
      (try simp only [List.getElem_toArray, List.getElem_cons_zero, List.getElem_cons_succ, Act.put, List.setIfInBounds_toArray, List.set_cons_zero, List.set_cons_succ])
      refine wpAnyH_ready (rs := [15]) (by kernel_rfl) (by simp) ?_
      refine AllReadyH.cons (o := _) rfl (fun K hK => ?_) AllReadyH.nil
      go_simp
      refine hK.out _ _ ?_ (fun hHeld => ?_)
      ·exact hS2.out
      clear hK K
      (try simp only [List.getElem_toArray, List.getElem_cons_zero, List.getElem_cons_succ, Act.put, List.setIfInBounds_toArray, List.set_cons_zero, List.set_cons_succ])
      refine wpAnyH_ready (rs := [17]) (by kernel_rfl) (by simp) ?_
      refine AllReadyH.cons (o := _) rfl (fun K hK => ?_) AllReadyH.nil
      go_simp
      (with_reducible refine (HSub.out _).mono ?_)
      rintro en w3 ⟨rfl, hB3⟩
      have hB23 := hB2.trans (hB3.mono hB2.size)
      have hS3 := hide (hSb.out w3 fun b _ hb => hB23.block b hb)
      have hP3 := SRow.belowS (w := Wx.drew) hPx hB23
      have l0 := hP3.c0 htl
      have l1 := hP3.c1 htl
      have m0 := hP3.free_ (t * 2)
      have m1 := hP3.free_ (t * 2 + 1)
      (try go_wp2_with fail)
      refine hK.out _ _ ?_ (fun hHeld => ?_)
      ·exact hS3.out
      clear hK K
      (try simp only [List.getElem_toArray, List.getElem_cons_zero, List.getElem_cons_succ, Act.put, List.setIfInBounds_toArray, List.set_cons_zero, List.set_cons_succ])
      refine wpAnyH_take (i := 18) (oi := _) (v := ?v18z) rfl (by kernel_rfl) (by kernel_rfl) (by kernel_rfl) (fun _ _ _ h => h) (Or.inl ⟨by rfl, ?hy18z⟩) (by assumption) ?rest18z
      case hy18z => (intro w hSw; (try dsimp only at hSw); go_simp; (try with_reducible rfl))
      (try simp only [List.getElem_toArray, List.getElem_cons_zero, List.getElem_cons_succ, Act.put, List.setIfInBounds_toArray, List.set_cons_zero, List.set_cons_succ])
      refine wpAnyH_ready (rs := [19]) (by kernel_rfl) (by simp) ?_
      refine AllReadyH.cons (o := _) rfl (fun K hK => ?_) AllReadyH.nil
      go_simp
      refine hK.out _ _ ?_ (fun hHeld => ?_)
      ·exact hSb.out _ fun b hne hb => (Below.heap_setCell _ ⟨rs f, t * 2 + 1, none⟩ _ b hne).trans ((Below.heap_setCell _ ⟨rs f, t * 2, none⟩ _ b hne).trans (hB23.block b hb))
      clear hK K
      (try simp only [List.getElem_toArray, List.getElem_cons_zero, List.getElem_cons_succ, Act.put, List.setIfInBounds_toArray, List.set_cons_zero, List.set_cons_succ])
      refine wpAnyH_done (by kernel_rfl) ?_ _
      refine NoPanic.normal ?_
      have hnew := hide (hNewB.out w3 hB23)
      clear hB23 hP3 l0 l1 m0 m1
      go_wp2
      go_roundw
      case rel => exact ⟨q + 1, by go_num, hqe, hnew.out.1, hide hnew.out.2.1, hnew.out.2.2⟩
      case measure => simp [intOf]; omega
    ·obtain rfl : q = es.length := by omega
     rw [List.take_length] at hR4
     have hMat : Mat wr2 G i i (aF m es) := ⟨rs, hH, fun a ha => (hR4.out a ha).1⟩
     have hab : ∀ a b, a < i → b < i → (aF m es a b).natAbs ≤ 65536 := fun a b _ _ => by have := aFle m es a b; omega
     have HAdj := hide (mxAdj_any G i (aF m es) wr2 hn0 hn hab hMat)
     have hoU : ∀ s k, s < i → k ≤ i → (rsum (adjF i (aF m es)) s k).natAbs ≤ 32 * 4294967296 ^ 32 := fun s k hs hk => by
      have h1 : ∀ j, j < k → (adjF i (aF m es) s j).natAbs ≤ 4294967296 ^ 32 := fun j hj => by
       have h2 : (chM i (aF m es) (i - 1) s j).natAbs ≤ 4294967296 ^ (i - 1) := chM_le (by omega) hab (i - 1) s j hs (by omega)
       have h3 : (4294967296 : Nat) ^ (i - 1) ≤ 4294967296 ^ 32 := Nat.pow_le_pow_right (by decide) (by omega)
       unfold adjF
       split
       ·rw [Int.natAbs_neg]; exact Nat.le_trans h2 h3
       ·exact Nat.le_trans h2 h3
      have h4 := rsumle (f := adjF i (aF m es)) (s := s) (U := 4294967296 ^ 32) k h1
      exact Nat.le_trans h4 (Nat.mul_le_mul_right _ (by omega))
     have hae : ∀ s j, s < i → j < i → (adjF i (aF m es) s j).natAbs ≤ 4294967296 ^ 32 := fun s j hs hj => by
      have h2 : (chM i (aF m es) (i - 1) s j).natAbs ≤ 4294967296 ^ (i - 1) := chM_le (by omega) hab (i - 1) s j hs hj
      have h3 : (4294967296 : Nat) ^ (i - 1) ≤ 4294967296 ^ 32 := Nat.pow_le_pow_right (by decide) (by omega)
      unfold adjF
      split
      ·rw [Int.natAbs_neg]; exact Nat.le_trans h2 h3
      ·exact Nat.le_trans h2 h3
     have HOU := hide hoU
     have HAE := hide hae
     have HBq := hide hB
     have hGl2 := hH.lt
     have hGs : Z < wr2.heap.size := by have := hB.size; omega
     clear hMat hab hH hR4 hB hoU hae t0 t1 t2
     go_wp2_with fail
     (with_reducible refine HAdj.out.mono ?_)
     rintro e w4 ⟨Gb, rfl, hMb, hB4⟩
     obtain ⟨ad, had⟩ : ∃ ad, adjF i (aF m es) = ad := ⟨_, rfl⟩
     rw [had] at hMb HOU HAE
     have HAD := hide had
     clear had
     have hB14 : Below G w1 w4 := HBq.out.trans (hB4.mono (by omega))
     obtain ⟨s0, s1, s2⟩ := HGr.out w4 hB14
     have hG4 : G < w4.heap.size := Nat.lt_of_lt_of_le (hGl2 : G < wr2.heap.size) hB4.size
     have HB14 := hide hB14
     obtain ⟨rb, hHb, hRb⟩ := hMb
     have hGbl := hHb.lt
     have hRbl := hide (fun a (ha : a < i) => (hRb a ha).lt)
     have HHb := hide hHb
     have HRb := hide hRb
     clear hHb hRb hB4 hB14
     go_wp2
     obtain ⟨O, hOO⟩ : ∃ O, w4.heap.size = O := ⟨_, rfl⟩
     have hRow := SRow.new_ w4 (List.replicate i 0)
     rw [← rowL_zero] at hRow
     have hA5 : Below O w4 (w4.alloc (.cells (scells (List.replicate i 0)).toArray 55)) := by rw [← hOO]; exact (Below.refl _ w4).alloc (Nat.le_refl _) _
     rw [rowL_zero, hOO] at hRow
     rw [hOO] at hGbl hRbl hG4 ⊢
     have HO := hide hOO
     clear hOO s0 s1 s2
     generalize w4.alloc (.cells (scells (List.replicate i 0)).toArray 55) = W5 at hRow hA5 ⊢
     go_loopw [93] (fun sv w5 => ∃ s : Nat, sv = .int .i64 s ∧ s ≤ i ∧ SRow w5 O (rowL i (fun k => if k < s then rsum ad k i else 0)) ∧ Below O w4 w5) (fun sv _ => i - (intOf sv).toNat)
     case atStart => exact ⟨0, rfl, Nat.zero_le _, by rw [show (fun k => if k < 0 then rsum ad k i else 0) = fun _ => 0 from by funext a; simp, rowL_zero]; exact hRow, hA5⟩
     case round =>
      obtain ⟨s, rfl, hs, hS, hB⟩ := hrel
      clear hRow hA5
      obtain ⟨w5, rfl⟩ : ∃ w5, w5 = wr := ⟨_, rfl⟩
      by_cases hlt : s < i
      ·have hs0 : (0 : Int) ≤ (s : Int) := by omega
       have hs1 : (s : Int) < (i : Int) := by omega
       have hhd := (HHb.out.below hB hGbl).cell (j := s) hlt hlt
       have HS := hide hS
       have HB := hide hB
       clear hS hB
       go_wp2
       go_loopw [100] (fun kv w6 => ∃ k : Nat, kv = .int .i64 k ∧ k ≤ i ∧ SRow w6 O (rowL i (fun a => if a < s then rsum ad a i else if a = s then rsum ad s k else 0)) ∧ Below O w4 w6) (fun kv _ => i - (intOf kv).toNat)
       case atStart => exact ⟨0, rfl, Nat.zero_le _, by
        rw [show (fun a => if a < s then rsum ad a i else if a = s then rsum ad s 0 else 0) = (fun a => if a < s then rsum ad a i else 0) from by funext a; simp [rsum]]
        exact HS.out, HB.out⟩
       case round =>
        obtain ⟨k, rfl, hk, hS, hB⟩ := hrel
        clear HS HB hhd
        obtain ⟨w6, rfl⟩ : ∃ w6, w6 = wr := ⟨_, rfl⟩
        by_cases hkl : k < i
        ·have k0 : (0 : Int) ≤ (k : Int) := by omega
         have k1 : (k : Int) < (i : Int) := by omega
         have hRr := (HRb.out s hlt).below hB (hRbl.out s hlt)
         have v0 := hRr.c0 (k := k) (by rw [rowL_len]; exact hkl)
         have v1 := hRr.c1 (k := k) (by rw [rowL_len]; exact hkl)
         rw [rowL_get hkl] at v0 v1
         have hsl : s < (rowL i (fun a => if a < s then rsum ad a i else if a = s then rsum ad s k else 0)).length := by rw [rowL_len]; exact hlt
         have p0 := hS.c0 hsl
         have p1 := hS.c1 hsl
         have hxv := hide (show (rowL i (fun a => if a < s then rsum ad a i else if a = s then rsum ad s k else 0)).getD s 0 = rsum ad s k by rw [rowL_get hlt, if_neg (Nat.lt_irrefl s), if_pos rfl])
         have hxb := HOU.out s k hlt hk
         have hyb := HAE.out s k hlt hkl
         have HNx := hide (show rsum ad s (k + 1) = rsum ad s k + ad s k from rfl)
         obtain ⟨x, hx⟩ : ∃ x, rsum ad s k = x := ⟨_, rfl⟩
         obtain ⟨y, hy⟩ : ∃ y, ad s k = y := ⟨_, rfl⟩
         rw [hxv.out, hx] at p0 p1
         have hxv := hide (hxv.out.trans hx)
         rw [hx] at hxb HNx
         rw [hy] at v0 v1 hyb HNx
         have HAdd := hide (fun W => iAdd_g x y W (Sml.le ⟨33, by decide, by decide⟩ hxb) (Sml.le ⟨33, by decide, by decide⟩ hyb))
         have hA : Below w6.heap.size w6 (w6.alloc (.cells #[.bool (ng y), .string (mgI y)] 55)) := (Below.refl _ w6).alloc (Nat.le_refl _) _
         have hx_ := heap_alloc_new w6 (.cells #[.bool (ng y), .string (mgI y)] 55)
         have hPx0 := hS.belowS hA
         have hBx0 := hB.trans (hA.mono (show O ≤ w6.heap.size by have := hS.lt; omega))
         have q0 := (hA.cell (p := ⟨O, s * 2, none⟩) hS.lt).trans p0
         have q1 := (hA.cell (p := ⟨O, s * 2 + 1, none⟩) hS.lt).trans p1
         have hPl := hS.lt
         have hxs : (w6.alloc (.cells #[.bool (ng y), .string (mgI y)] 55)).heap.size = w6.heap.size + 1 := by simp
         clear hx hy hxb hyb p0 p1 hB hS hA hRr
         go_wp2_with fail
         obtain ⟨X, hXX⟩ : ∃ X, w6.heap.size = X := ⟨_, rfl⟩
         rw [hXX] at hx_ hPl hxs ⊢
         have x0 : (w6.alloc (.cells #[.bool (ng y), .string (mgI y)] 55)).cell? ⟨X, 0, none⟩ = some (.bool (ng y)) := by rw [cell_of_row _ _ 0 _ 55 (0, 0) hx_]; rfl
         have x1 : (w6.alloc (.cells #[.bool (ng y), .string (mgI y)] 55)).cell? ⟨X, 1, none⟩ = some (.string (mgI y)) := by rw [cell_of_row _ _ 1 _ 55 (0, 0) hx_]; rfl
         generalize w6.alloc (.cells #[.bool (ng y), .string (mgI y)] 55) = Wx at hx_ hPx0 hBx0 q0 q1 hxs x0 x1 ⊢
         have hPx : SRow Wx O (rowL i (fun a => if a < s then rsum ad a i else if a = s then rsum ad s k else 0)) := hPx0
         have hBx := hide hBx0
         have hSb := hide (show ∀ W1 : World, (∀ b, b ≠ O → b < Wx.heap.size → W1.heap[b]? = Wx.heap[b]?) → (fun W' : World => W'.cell? ⟨X, 0, none⟩ = some (.bool (ng y)) ∧ W'.cell? ⟨X, 1, none⟩ = some (.string (mgI y))) W1 from fun W1 hW1 => ⟨(World.cell?_of_block (hW1 X (by omega) (by omega))).trans x0, (World.cell?_of_block (hW1 X (by omega) (by omega))).trans x1⟩)
         have q0d : Wx.drew.cell? ⟨O, s * 2, none⟩ = some (.bool (ng x)) := q0
         have q1d : Wx.drew.cell? ⟨O, s * 2 + 1, none⟩ = some (.string (mgI x)) := q1
         clear hx_ hPx0 hBx0 v0 v1 x0 x1 hXX q0 q1
         refine wp_region_noPanic ?_
         refine wp_region_held_drew (S := fun W' => W'.cell? ⟨X, 0, none⟩ = some (.bool (ng y)) ∧ W'.cell? ⟨X, 1, none⟩ = some (.string (mgI y))) (by kernel_rfl) (hSb.out _ fun b _ hb => rfl) (fun hHeld => ?_)
         refine wpAnyH_take (i := 0) (oi := _) (v := ?v0q) rfl (by kernel_rfl) (by kernel_rfl) (by kernel_rfl) (fun _ _ _ h => h) (Or.inl ⟨by rfl, ?hy0q⟩) (by assumption) ?rest0q
         case hy0q => (intro w hSw; (try dsimp only at hSw); go_simp; (try with_reducible rfl))
         (try simp only [List.getElem_toArray, List.getElem_cons_zero, Act.put, List.setIfInBounds_toArray, List.set_cons_zero, List.set_cons_succ])
         refine wpAnyH_take (i := 1) (oi := _) (v := ?v1q) rfl (by kernel_rfl) (by kernel_rfl) (by kernel_rfl) (fun _ _ _ h => h) (Or.inl ⟨by rfl, ?hy1q⟩) (by assumption) ?rest1q
         case hy1q => (intro w hSw; (try dsimp only at hSw); go_simp; (try with_reducible rfl))
         (try simp only [List.getElem_toArray, List.getElem_cons_zero, List.getElem_cons_succ, Act.put, List.setIfInBounds_toArray, List.set_cons_zero, List.set_cons_succ])
         refine wpAnyH_take (i := 2) (oi := _) (v := ?v2q) rfl (by kernel_rfl) (by kernel_rfl) (by kernel_rfl) (fun _ _ _ h => h) (Or.inl ⟨by rfl, ?hy2q⟩) (by assumption) ?rest2q
         case hy2q => (intro w hSw; (try dsimp only at hSw); go_simp; (try with_reducible rfl))
         (try simp only [List.getElem_toArray, List.getElem_cons_zero, List.getElem_cons_succ, Act.put, List.setIfInBounds_toArray, List.set_cons_zero, List.set_cons_succ])
         refine wpAnyH_take (i := 3) (oi := _) (v := ?v3q) rfl (by kernel_rfl) (by kernel_rfl) (by kernel_rfl) (fun _ _ _ h => h) (Or.inl ⟨by rfl, ?hy3q⟩) (by assumption) ?rest3q
         case hy3q => (intro w hSw; (try dsimp only at hSw); go_simp; (try with_reducible rfl))
         (try simp only [List.getElem_toArray, List.getElem_cons_zero, List.getElem_cons_succ, Act.put, List.setIfInBounds_toArray, List.set_cons_zero, List.set_cons_succ])
         refine wpAnyH_take (i := 4) (oi := _) (v := ?v4q) rfl (by kernel_rfl) (by kernel_rfl) (by kernel_rfl) (fun _ _ _ h => h) (Or.inl ⟨by rfl, ?hy4q⟩) (by assumption) ?rest4q
         case hy4q => (intro w hSw; (try dsimp only at hSw); go_simp; (try with_reducible rfl))
         (try simp only [List.getElem_toArray, List.getElem_cons_zero, List.getElem_cons_succ, Act.put, List.setIfInBounds_toArray, List.set_cons_zero, List.set_cons_succ])
         refine wpAnyH_take (i := 6) (oi := _) (v := ?v6q) rfl (by kernel_rfl) (by kernel_rfl) (by kernel_rfl) (fun _ _ _ h => h) (Or.inl ⟨by rfl, ?hy6q⟩) (by assumption) ?rest6q
         case hy6q => (intro w hSw; (try dsimp only at hSw); go_simp; (try with_reducible rfl))
         (try simp only [List.getElem_toArray, List.getElem_cons_zero, List.getElem_cons_succ, Act.put, List.setIfInBounds_toArray, List.set_cons_zero, List.set_cons_succ])
         refine wpAnyH_ready (rs := [5]) (by kernel_rfl) (by simp) ?_
         refine AllReadyH.cons (o := _) rfl (fun K hK => ?_) AllReadyH.nil
         go_simp
         refine hK.out _ _ ?_ (fun hHeld => ?_)
         ·exact hHeld
         clear hK K
         (try simp only [List.getElem_toArray, List.getElem_cons_zero, List.getElem_cons_succ, Act.put, List.setIfInBounds_toArray, List.set_cons_zero, List.set_cons_succ])
         refine wpAnyH_ready (rs := [7]) (by kernel_rfl) (by simp) ?_
         refine AllReadyH.cons (o := _) rfl (fun K hK => ?_) AllReadyH.nil
         go_simp
         (with_reducible refine (HAdd.out _).mono ?_)
         rintro en w2 ⟨rfl, hB2⟩
         have hS2 := hide (hSb.out w2 fun b _ hb => hB2.block b hb)
         have hP2 := SRow.belowS (w := Wx.drew) hPx hB2
         have j0 := hP2.c0 hsl
         have j1 := hP2.c1 hsl
         have m0 := hP2.free_ (s * 2)
         have m1 := hP2.free_ (s * 2 + 1)
         (try go_wp2_with fail)
         refine hK.out _ _ ?_ (fun hHeld => ?_)
         ·exact hS2.out
         clear hK K
         (try simp only [List.getElem_toArray, List.getElem_cons_zero, List.getElem_cons_succ, Act.put, List.setIfInBounds_toArray, List.set_cons_zero, List.set_cons_succ])
         refine wpAnyH_take (i := 8) (oi := _) (v := ?v8q) rfl (by kernel_rfl) (by kernel_rfl) (by kernel_rfl) (fun _ _ _ h => h) (Or.inl ⟨by rfl, ?hy8q⟩) (by assumption) ?rest8q
         case hy8q => (intro w hSw; (try dsimp only at hSw); go_simp; (try with_reducible rfl))
         (try simp only [List.getElem_toArray, List.getElem_cons_zero, List.getElem_cons_succ, Act.put, List.setIfInBounds_toArray, List.set_cons_zero, List.set_cons_succ])
         refine wpAnyH_ready (rs := [9]) (by kernel_rfl) (by simp) ?_
         refine AllReadyH.cons (o := _) rfl (fun K hK => ?_) AllReadyH.nil
         go_simp
         refine hK.out _ _ ?_ (fun hHeld => ?_)
         ·exact hSb.out _ fun b hne hb => (Below.heap_setCell _ ⟨O, s * 2 + 1, none⟩ _ b hne).trans ((Below.heap_setCell _ ⟨O, s * 2, none⟩ _ b hne).trans (hB2.block b hb))
         clear hK K
         (try simp only [List.getElem_toArray, List.getElem_cons_zero, List.getElem_cons_succ, Act.put, List.setIfInBounds_toArray, List.set_cons_zero, List.set_cons_succ])
         refine wpAnyH_done (by kernel_rfl) ?_ _
         refine NoPanic.normal ?_
         have hS9 := hP2.set_ hsl (x + y)
         have hB9 : Below O w4 ((w2.setCell ⟨O, s * 2, none⟩ (.bool (ng (x + y)))).setCell ⟨O, s * 2 + 1, none⟩ (.string (mgI (x + y)))) := Below.pairG (hBx.out.trans ((Below.refl O Wx).drew.trans (hB2.mono (show O ≤ Wx.heap.size by omega)))) (Nat.le_refl _) _ _ _ _
         have HS9 := hide (show SRow ((w2.setCell ⟨O, s * 2, none⟩ (.bool (ng (x + y)))).setCell ⟨O, s * 2 + 1, none⟩ (.string (mgI (x + y)))) O (rowL i (fun a => if a < s then rsum ad a i else if a = s then rsum ad s (k + 1) else 0)) by
          rw [HNx.out, ← rowL_set (n := i) (f := fun a => if a < s then rsum ad a i else if a = s then rsum ad s k else 0) (k := s) (v := x + y) (g := fun a => if a < s then rsum ad a i else if a = s then x + y else 0) (by rw [if_neg (Nat.lt_irrefl s), if_pos rfl]) (fun j _ hne => by simp only [if_neg hne])]
          exact hS9)
         have HB9 := hide hB9
         clear hS9 hB9 hB2 hP2 j0 j1 m0 m1 q0d q1d hSb hPx hBx
         go_wp2
         go_roundw
         case rel => exact ⟨k + 1, by go_num, hkl, HS9.out, HB9.out⟩
         case measure => simp [intOf]; omega
        ·obtain rfl : k = i := by omega
         have HS9 := hide (show SRow w6 O (rowL k (fun a => if a < s + 1 then rsum ad a k else 0)) by
          rw [show (fun a => if a < s + 1 then rsum ad a k else 0) = (fun a => if a < s then rsum ad a k else if a = s then rsum ad s k else 0) from by
           funext a
           by_cases h1 : a < s
           ·rw [if_pos h1, if_pos (by omega)]
           ·rw [if_neg h1]
            by_cases h2 : a = s
            ·subst h2; rw [if_pos (by omega), if_pos rfl]
            ·rw [if_neg h2, if_neg (by omega)]]
          exact hS)
         have HB9 := hide hB
         clear hS hB
         go_wp2
         go_roundw
         case rel => exact ⟨s + 1, by go_num, hlt, HS9.out, HB9.out⟩
         case measure => simp [intOf]; omega
      ·obtain rfl : s = i := by omega
       have hRO : SRow w5 O (rowL s (outV s m es)) := by
        have e3 : rowL s (outV s m es) = rowL s (fun k => if k < s then rsum ad k s else 0) := by
         unfold rowL
         refine List.map_congr_left fun a ha => ?_
         rw [if_pos (List.mem_range.1 ha), ← HAD.out]
         rfl
        rw [e3]
        exact hS
       have hB15 : Below G w1 w5 := HB14.out.trans (hB.mono (Nat.le_of_lt hG4))
       obtain ⟨t0, t1, t2⟩ := HGr.out w5 hB15
       have hBw : Below w.heap.size w w5 := HB1.out.trans (hB15.mono (by have := HB1.out.size; have := HGG.out; omega))
       have hRf := hide (evRefusal_any L s m es A c O 0 s (outV s m es) (32 * 4294967296 ^ 32) w5 (by omega) hm.2 hl HE.out (HR.out w5 hBw)
        ⟨hRO.lt, fun k hk => by
         have a := hRO.c0 (k := k) (by rw [rowL_len]; exact hk)
         have b := hRO.c1 (k := k) (by rw [rowL_len]; exact hk)
         rw [rowL_get hk] at a b
         rw [Nat.zero_add]
         exact ⟨a, b⟩⟩ (fun k hk => by
         have h := HOU.out k s hk (Nat.le_refl _)
         rw [← HAD.out] at h
         exact h) ⟨34, by decide, by decide⟩)
       have HRO := hide (fun W (hW : Below w5.heap.size w5 W) => hRO.belowS hW)
       have HBw := hide hBw
       have hwO : w.heap.size ≤ O := by have := HB1.out.size; have := HGG.out; omega
       clear hRO hB15 hBw hS hB
       cases hrb : refB s es m (outV s m es)
       all_goals (
        rw [hrb] at hRf
        have HRB := hide hrb
        clear hrb
        go_wp2_with fail
        (with_reducible refine hRf.out.mono ?_)
        rintro e w7 ⟨rfl, hB7⟩
        have HRO7 := hide (HRO.out w7 hB7)
        have HB7 := hide (HBw.out.trans (hB7.mono HBw.out.size))
        clear hB7 t0 t1 t2
        go_wp2
        go_ret2)
       ·exact ⟨HB7.out, Or.inr ⟨HRB.out, rfl⟩⟩
       ·exact ⟨HB7.out, Or.inl ⟨HRB.out, O, rfl, hwO, HRO7.out⟩⟩
end Go.Proofs.YtbnpjoiojhnimaaGreatDoor
namespace Go.Proofs.YtbnpjoiojhnimaaGreatDoor
open Go.RowKit
def RowT (w : World) (A : Option Addr) (xs : List ByteArray) : Prop := 0 < xs.length → ∃ b o, A = some ⟨b, o, none⟩ ∧ b < w.heap.size ∧ ∀ k (hk : k < xs.length), w.cell? ⟨b, o + k, none⟩ = some (.string xs[k])
theorem RowT.below {w w' : World} {A : Option Addr} {xs : List ByteArray} (h : RowT w A xs) (hB : Below w.heap.size w w') : RowT w' A xs := by
 intro h0
 obtain ⟨b, o, h1, h2, h3⟩ := h h0
 exact ⟨b, o, h1, Nat.lt_of_lt_of_le h2 hB.size, fun k hk => (hB.cell (p := ⟨b, o + k, none⟩) h2).trans (h3 k hk)⟩
set_option maxRecDepth 100000 in
set_option maxHeartbeats 4000000 in
theorem ccheck_any (q : Int) (xs : List ByteArray) (A : Option Addr) (c : Nat) (w : World) (hR : RowT w A xs) (hc : xs.length ≤ c) (hcm : c ≤ 9223372036854775807) :
  Calls Tryz.prog 112 #[.agg #[.int .i64 q, .slice A xs.length c]] w fun e w' => e = .returned (.int .i64 (cdk q xs)) ∧ Below w.heap.size w w' := by
 have HR := hide hR
 clear hR
 obtain ⟨R, hRR⟩ : ∃ R, cdk q xs = R := ⟨_, rfl⟩
 rw [hRR]
 by_cases hq0 : q < 2
 ·have HV := hide (show R = 12 by rw [← hRR, cdk, if_pos (Or.inl hq0)])
  clear hRR
  go_enter Tryz.func112, Tryz.ntmps112
  go_wp2
  go_ret
  exact ⟨by rw [HV.out]; rfl, (Below.refl _ w).alloc (Nat.le_refl _) _⟩
 by_cases hq1 : 16 < q
 ·have HV := hide (show R = 12 by rw [← hRR, cdk, if_pos (Or.inr hq1)])
  clear hRR
  go_enter Tryz.func112, Tryz.ntmps112
  go_wp2
  go_ret
  exact ⟨by rw [HV.out]; rfl, (Below.refl _ w).alloc (Nat.le_refl _) _⟩
 by_cases hz : xs.length = 0
 ·have HV := hide (show R = 5 by rw [← hRR, cdk, if_neg (by omega), if_pos hz])
  have hz2 : ((xs.length : Int) == 0) = true := by simp [hz]
  clear hRR
  go_enter Tryz.func112, Tryz.ntmps112
  go_wp2
  go_ret
  exact ⟨by rw [HV.out]; rfl, (Below.refl _ w).alloc (Nat.le_refl _) _⟩
 have hz2 : ((xs.length : Int) == 0) = false := by rw [beq_eq_false_iff_ne]; omega
 by_cases hm : 64 < xs.length
 ·have HV := hide (show R = 4 by rw [← hRR, cdk, if_neg (by omega), if_neg hz, if_pos hm])
  have hm2 : decide ((64 : Int) < (xs.length : Int)) = true := decide_eq_true (by omega)
  clear hRR
  go_enter Tryz.func112, Tryz.ntmps112
  go_wp2
  go_ret
  exact ⟨by rw [HV.out]; rfl, (Below.refl _ w).alloc (Nat.le_refl _) _⟩
 have hm2 : decide ((64 : Int) < (xs.length : Int)) = false := decide_eq_false (by omega)
 have hlen : xs.length ≤ 64 := by omega
 have HRR := hide (show R = cdl q (prv xs 0) (xs.drop 0) by rw [← hRR, cdk, if_neg (by omega), if_neg hz, if_neg hm]; rfl)
 clear hRR hm
 obtain ⟨B, hB⟩ : ∃ B, w.heap.size = B := ⟨_, rfl⟩
 have hg0 := heap_alloc_new w (Obj.cells #[.int .i64 q, .slice A xs.length c] 27)
 rw [hB] at hg0
 have HG0 := hide hg0
 have HB0 := hide ((Below.refl B w).alloc (Nat.le_of_eq hB.symm) (Obj.cells #[.int .i64 q, .slice A xs.length c] 27))
 clear hg0
 go_enter Tryz.func112, Tryz.ntmps112
 go_wp2
 go_loopg [27] xs.length (fun gk iv wr => ∃ k : Nat, gk = xs.length - k ∧ iv = .int .i64 k ∧ k ≤ xs.length ∧ Hid (R = cdl q (prv xs k) (xs.drop k)) ∧ Hid (wr.heap[B]? = some (.cells #[.int .i64 q, .slice A xs.length c] 27 (0, 0))) ∧ Below B w wr)
 case atStart => exact ⟨0, rfl, rfl, Nat.zero_le _, HRR, HG0, HB0.out⟩
 case round =>
  obtain ⟨k, hgk, rfl, hk, HK, HG, hBw⟩ := hrel
  by_cases hlt : k < xs.length
  ·obtain ⟨b, o, rfl, hb, hcell⟩ := (HR.out.below (by rw [hB]; exact hBw)) (by omega)
   have c1 := hcell k hlt
   have p0 := cell_of_row wr B 0 _ _ _ HG.out
   have p1 := cell_of_row wr B 1 _ _ _ HG.out
   have HP := hide (fun (h : 0 < k) => hcell (k - 1) (by omega))
   simp at p0 p1
   obtain ⟨x, hx⟩ : ∃ x, x = xs[k] := ⟨_, rfl⟩
   rw [← hx] at c1
   have hk0 : (0 : Int) ≤ (k : Int) := by omega
   have hk1 : (k : Int) < (xs.length : Int) := by omega
   have HX := hide hx
   have HBB := hide hBw
   clear hcell hx hBw
   by_cases h0 : x.size = 0
   ·have he : x.toList.isEmpty = true := by rw [Lib.toList_data, List.isEmpty_iff_length_eq_zero, Array.length_toList]; exact h0
    have HV := hide (show R = 5 by rw [HK.out, cdl_five hlt (by rw [← HX.out]; exact h0)])
    clear h0
    go_wp2
    go_ret
    exact ⟨by rw [HV.out]; rfl, by rw [hB]; exact HBB.out⟩
   have hx0 : x.toList.isEmpty = false := by
    rw [Lib.toList_data, List.isEmpty_eq_false_iff]
    intro h
    exact h0 (by simpa using congrArg List.length h)
   by_cases h1 : 32 < x.size
   ·have HV := hide (show R = 4 by rw [HK.out, cdl_four hlt (by rw [← HX.out]; exact h1)])
    have h32 : decide ((32 : Int) < (x.size : Int)) = true := decide_eq_true (by omega)
    clear h0 h1
    go_wp2
    go_ret
    exact ⟨by rw [HV.out]; rfl, by rw [hB]; exact HBB.out⟩
   have h32 : decide ((32 : Int) < (x.size : Int)) = false := decide_eq_false (by omega)
   have HW := hide (fun W => wcheck_any q x W)
   by_cases h2 : chk q x.data.toList = 0
   ·have hn : (chk q x.data.toList != 0) = false := by rw [bne_eq_false_iff_eq]; exact h2
    have HS := hide (fun h3 => cdl_step (q := q) hlt (by rw [← HX.out]; exact h0) (by rw [← HX.out]; exact h1) (by rw [← HX.out]; exact h2) h3)
    have HT := hide (fun h3 => cdl_ten (q := q) hlt (by rw [← HX.out]; exact h0) (by rw [← HX.out]; exact h1) (by rw [← HX.out]; exact h2) h3)
    generalize chk q x.data.toList = z at HW hn h2
    clear h1
    by_cases hkz : k = 0
    ·have HN := hide (show R = cdl q (prv xs (k + 1)) (xs.drop (k + 1)) by rw [HK.out, HS.out (by rw [← HX.out]; subst hkz; exact prv_zero h0)])
     have hkp : ¬ (0 : Int) < (k : Int) := by omega
     clear h0 h2 hkz
     go_wp2_with (go_at_call 171; refine (HW.out _).mono ?_; rintro e w' ⟨rfl, n, rfl⟩)
     go_roundg (xs.length - (k + 1))
     case measure => omega
     case rel => exact ⟨k + 1, rfl, by go_num, hlt, HN, HG, belowN HBB.out n⟩
    ·have c0 := HP.out (by omega)
     obtain ⟨y, hy⟩ : ∃ y, y = xs[k - 1] := ⟨_, rfl⟩
     rw [← hy] at c0
     have hp : prv xs k = y.data.toList := by
      have := prv_succ (xs := xs) (k := k - 1) (by omega)
      rw [show k - 1 + 1 = k by omega, ← hy] at this
      exact this
     have HBF := hide (fun W => cdBefore_any y x W)
     rw [← HX.out, hp] at HS HT
     rw [hp] at HK
     clear hp hy h0 h2
     have hkp : decide ((0 : Int) < (k : Int)) = true := decide_eq_true (by omega)
     by_cases h3 : 0 ≤ cmpW y.data.toList x.data.toList
     ·have HV := hide (show R = 10 by rw [HK.out]; exact HT.out h3)
      generalize cmpW y.data.toList x.data.toList = r at HBF h3
      go_wp2_with (first | (go_at_call 171; refine (HW.out _).mono ?_; rintro e w' ⟨rfl, n, rfl⟩) | (go_at_call 172; refine (HBF.out _).mono ?_; rintro e w' ⟨rfl, rfl⟩))
      go_ret
      exact ⟨by rw [HV.out]; rfl, by rw [hB]; exact (belowN HBB.out n).alloc (by have := HBB.out.size; simp; omega) _⟩
     ·have h4 : cmpW y.data.toList x.data.toList < 0 := by omega
      have HN := hide (show R = cdl q (prv xs (k + 1)) (xs.drop (k + 1)) by rw [HK.out]; exact HS.out h4)
      have h5 : decide ((0 : Int) ≤ cmpW y.data.toList x.data.toList) = false := decide_eq_false h3
      generalize cmpW y.data.toList x.data.toList = r at HBF h3 h4 h5
      clear h3 h4
      go_wp2_with (first | (go_at_call 171; refine (HW.out _).mono ?_; rintro e w' ⟨rfl, n, rfl⟩) | (go_at_call 172; refine (HBF.out _).mono ?_; rintro e w' ⟨rfl, rfl⟩))
      have hBl : B < wr.heap.size := by
       rcases Nat.lt_or_ge B wr.heap.size with h | h
       ·exact h
       ·have := HG.out; rw [Array.getElem?_eq_none h] at this; cases this
      go_roundg (xs.length - (k + 1))
      case measure => omega
      case rel =>
       refine ⟨k + 1, rfl, by go_num, hlt, HN, ?_, (belowN HBB.out n).alloc (by have := HBB.out.size; simp; omega) _⟩
       refine hide ?_
       rw [heap_alloc_old _ _ (by simpa using hBl)]
       exact HG.out
   ·have hn : (chk q x.data.toList != 0) = true := by rw [bne_iff_ne]; exact h2
    have HV := hide (show R = 13 by rw [HK.out, cdl_word hlt (by rw [← HX.out]; exact h0) (by rw [← HX.out]; exact h1) (by rw [← HX.out]; exact h2)])
    generalize chk q x.data.toList = z at HW hn h2
    clear h0 h1 h2
    go_wp2_with (go_at_call 171; refine (HW.out _).mono ?_; rintro e w' ⟨rfl, n, rfl⟩)
    go_ret
    exact ⟨by rw [HV.out]; rfl, by rw [hB]; exact belowN HBB.out n⟩
  ·obtain rfl : k = xs.length := by omega
   have HV := hide (show R = 0 by rw [HK.out, List.drop_length]; unfold cdl; rfl)
   go_wp2
   go_ret
   exact ⟨by rw [HV.out]; rfl, by rw [hB]; exact hBw⟩
end Go.Proofs.YtbnpjoiojhnimaaGreatDoor
set_option linter.unusedVariables false
namespace Go.Proofs.YtbnpjoiojhnimaaGreatDoor.Sar
abbrev Wd := List UInt8
def Fst (W : List Wd) (r : Wd) : Prop := r ≠ [] ∧ ∃ x y, x ∈ W ∧ y ∈ W ∧ y = x ++ r
def Nxt (W : List Wd) (r u : Wd) : Prop := ∃ x, x ∈ W ∧ (r = x ++ u ∨ (x = r ++ u ∧ u ≠ []))
structure Closed (W R : List Wd) : Prop where
 fst : ∀ r, Fst W r → r ∈ R
 nxt : ∀ r, r ∈ R → r ≠ [] → ∀ u, Nxt W r u → u ∈ R
theorem dang {W R : List Wd} (hR : Closed W R) : ∀ (n : Nat) (A B : List Wd) (r : Wd), A.length + B.length ≤ n → r ∈ R → (∀ x ∈ A, x ∈ W) → (∀ x ∈ B, x ∈ W) → r ++ A.flatten = B.flatten → [] ∈ R
 | n, A, [], r, _, hr, _, _, h => by
  rw [List.flatten_nil, List.append_eq_nil_iff] at h
  rw [h.1] at hr; exact hr
 | 0, A, x :: B, r, hn, _, _, _, _ => by simp at hn
 | n + 1, A, x :: B, r, hn, hr, hA, hB, h => by
  by_cases h0 : r = []
  ·rw [h0] at hr; exact hr
  ·rw [List.flatten_cons] at h
   have hxW := hB x (List.mem_cons_self ..)
   have hBW : ∀ y ∈ B, y ∈ W := fun y hy => hB y (List.mem_cons_of_mem _ hy)
   rw [List.length_cons] at hn
   rcases List.append_eq_append_iff.1 h with ⟨a, h1, h2⟩ | ⟨c, h1, h2⟩
   ·by_cases ha : a = []
    ·subst ha
     rw [List.append_nil] at h1
     exact hR.nxt r hr h0 [] ⟨x, hxW, .inl (by rw [h1, List.append_nil])⟩
    ·exact dang hR n B A a (by omega) (hR.nxt r hr h0 a ⟨x, hxW, .inr ⟨h1, ha⟩⟩) hBW hA h2.symm
   ·exact dang hR n A B c (by omega) (hR.nxt r hr h0 c ⟨x, hxW, .inl h1⟩) hA hBW h2.symm
def cat (W : List Wd) (l : List Nat) : Wd := (l.map fun i => W.getD i []).flatten
theorem cat_cons (W : List Wd) (i : Nat) (l : List Nat) : cat W (i :: l) = W.getD i [] ++ cat W l := by unfold cat; rw [List.map_cons, List.flatten_cons]
theorem amb {W R : List Wd} (hR : Closed W R) (hne : ∀ x ∈ W, x ≠ []) (hinj : ∀ i j, i < W.length → j < W.length → W.getD i [] = W.getD j [] → i = j) :
  ∀ (l m : List Nat), (∀ i ∈ l, i < W.length) → (∀ i ∈ m, i < W.length) → l ≠ m → cat W l = cat W m → [] ∈ R := by
 have hmem : ∀ i, i < W.length → W.getD i [] ∈ W := fun i hi => by
  rw [List.getD_eq_getElem?_getD, List.getElem?_eq_getElem hi]; exact List.getElem_mem hi
 have hall : ∀ l : List Nat, (∀ i ∈ l, i < W.length) → ∀ x ∈ l.map fun i => W.getD i [], x ∈ W := fun l hl x hx => by
  obtain ⟨i, hi, rfl⟩ := List.mem_map.1 hx
  exact hmem i (hl i hi)
 intro l
 induction l with
 | nil =>
  intro m _ hm hne2 h
  match m, hne2, hm, h with
  | [], hne2, _, _ => exact absurd rfl hne2
  | j :: m, _, hm, h =>
   rw [cat_cons] at h
   have h' := (List.append_eq_nil_iff.1 h.symm).1
   exact absurd h' (hne _ (hmem j (hm j (List.mem_cons_self ..))))
 | cons i l ih =>
  intro m hl hm hne2 h
  match m, hne2, hm, h with
  | [], _, _, h =>
   rw [cat_cons] at h
   have h' := (List.append_eq_nil_iff.1 h).1
   exact absurd h' (hne _ (hmem i (hl i (List.mem_cons_self ..))))
  | j :: m, hne2, hm, h =>
   have hi := hl i (List.mem_cons_self ..)
   have hj := hm j (List.mem_cons_self ..)
   have hlt : ∀ k ∈ l, k < W.length := fun k hk => hl k (List.mem_cons_of_mem _ hk)
   have hmt : ∀ k ∈ m, k < W.length := fun k hk => hm k (List.mem_cons_of_mem _ hk)
   rw [cat_cons, cat_cons] at h
   by_cases hij : i = j
   ·subst hij
    exact ih m hlt hmt (fun e => hne2 (by rw [e])) (List.append_cancel_left h)
   ·have hwn : W.getD i [] ≠ W.getD j [] := fun e => hij (hinj i j hi hj e)
    rcases List.append_eq_append_iff.1 h with ⟨a, h1, h2⟩ | ⟨c, h1, h2⟩
    ·have ha : a ≠ [] := fun e => hwn (by rw [h1, e, List.append_nil])
     exact dang hR _ _ _ a (Nat.le_refl _) (hR.fst a ⟨ha, _, _, hmem i hi, hmem j hj, h1⟩) (hall m hmt) (hall l hlt) h2.symm
    ·have hc : c ≠ [] := fun e => hwn (by rw [h1, e, List.append_nil])
     exact dang hR _ _ _ c (Nat.le_refl _) (hR.fst c ⟨hc, _, _, hmem j hj, hmem i hi, h1⟩) (hall l hlt) (hall m hmt) h2.symm
end Go.Proofs.YtbnpjoiojhnimaaGreatDoor.Sar
set_option linter.unusedVariables false
namespace Go.Proofs.YtbnpjoiojhnimaaGreatDoor.Sar
theorem sub_len2 {α : Type} [BEq α] [LawfulBEq α] : ∀ (l m : List α), l.Nodup → (∀ x ∈ l, x ∈ m) → l.length ≤ m.length
 | [], m, _, _ => Nat.zero_le _
 | x :: l, m, hn, h => by
  have hx := h x (List.mem_cons_self ..)
  rw [List.nodup_cons] at hn
  have h1 := sub_len2 l (m.erase x) hn.2 fun y hy => (List.mem_erase_of_ne (by rintro rfl; exact hn.1 hy)).2 (h y (List.mem_cons_of_mem _ hy))
  rw [List.length_erase_of_mem hx] at h1
  have := List.length_pos_of_mem hx
  rw [List.length_cons]
  omega
def fst1 (x y : Wd) : List Wd := if x.isPrefixOf y ∧ y.drop x.length ≠ [] then [y.drop x.length] else []
def fstL (W : List Wd) : List Wd := W.flatMap fun x => W.flatMap fun y => fst1 x y
def nxt1 (r x : Wd) : List Wd := if x.isPrefixOf r then [r.drop x.length] else if r.isPrefixOf x then [x.drop r.length] else []
def nxtL (W : List Wd) (r : Wd) : List Wd := W.flatMap (nxt1 r)
theorem pre_iff {x y : Wd} : x.isPrefixOf y = true ↔ y = x ++ y.drop x.length := by
 rw [List.isPrefixOf_iff_prefix]
 constructor
 ·rintro ⟨t, rfl⟩; rw [List.drop_left]
 ·intro h; exact ⟨_, h.symm⟩
theorem fstL_iff {W : List Wd} {r : Wd} : r ∈ fstL W ↔ Fst W r := by
 unfold fstL Fst
 simp only [List.mem_flatMap]
 constructor
 ·rintro ⟨x, hx, y, hy, h⟩
  unfold fst1 at h
  split at h
  ·rename_i hc
   obtain rfl : r = y.drop x.length := by simpa using h
   exact ⟨hc.2, x, y, hx, hy, pre_iff.1 hc.1⟩
  ·cases h
 ·rintro ⟨h0, x, y, hx, hy, h⟩
  have e : y.drop x.length = r := by rw [h, List.drop_left]
  refine ⟨x, hx, y, hy, ?_⟩
  unfold fst1
  rw [if_pos ⟨pre_iff.2 (by rw [e]; exact h), by rw [e]; exact h0⟩, e]
  exact List.mem_singleton.2 rfl
theorem nxtL_iff {W : List Wd} {r u : Wd} : u ∈ nxtL W r ↔ Nxt W r u := by
 unfold nxtL Nxt
 rw [List.mem_flatMap]
 constructor
 ·rintro ⟨x, hx, h⟩
  refine ⟨x, hx, ?_⟩
  unfold nxt1 at h
  split at h
  ·rename_i hp
   obtain rfl : u = r.drop x.length := by simpa using h
   exact .inl (pre_iff.1 hp)
  ·rename_i hn
   split at h
   ·rename_i hp
    obtain rfl : u = x.drop r.length := by simpa using h
    refine .inr ⟨pre_iff.1 hp, fun e => hn ?_⟩
    have h2 := pre_iff.1 hp
    rw [e, List.append_nil] at h2
    rw [h2]
    exact pre_iff.2 (by simp)
   ·cases h
 ·rintro ⟨x, hx, h | ⟨h, h0⟩⟩
  ·refine ⟨x, hx, ?_⟩
   have e : r.drop x.length = u := by rw [h, List.drop_left]
   unfold nxt1
   rw [if_pos (pre_iff.2 (by rw [e]; exact h)), e]
   exact List.mem_singleton.2 rfl
  ·refine ⟨x, hx, ?_⟩
   have e : x.drop r.length = u := by rw [h, List.drop_left]
   unfold nxt1
   rw [if_neg, if_pos (pre_iff.2 (by rw [e]; exact h)), e]
   ·exact List.mem_singleton.2 rfl
   ·intro hp
    have h1 := congrArg List.length (pre_iff.1 hp)
    rw [List.length_append] at h1
    have h2 := congrArg List.length h
    rw [List.length_append] at h2
    have : 0 < u.length := List.length_pos_iff.2 h0
    omega
def add1 (out : List Wd) (r : Wd) : List Wd := if r ∈ out then out else out ++ [r]
def addL (out l : List Wd) : List Wd := l.foldl add1 out
theorem add1_mem {out : List Wd} {r x : Wd} : x ∈ add1 out r ↔ x ∈ out ∨ x = r := by
 unfold add1
 split
 ·rename_i h
  exact ⟨.inl, fun e => e.elim id fun e => by rw [e]; exact h⟩
 ·simp
theorem addL_mem {x : Wd} : ∀ (l out : List Wd), x ∈ addL out l ↔ x ∈ out ∨ x ∈ l
 | [], out => by simp [addL]
 | r :: l, out => by
  rw [show addL out (r :: l) = addL (add1 out r) l from rfl, addL_mem l, add1_mem, List.mem_cons]
  constructor
  ·rintro ((h | h) | h)
   ·exact .inl h
   ·exact .inr (.inl h)
   ·exact .inr (.inr h)
  ·rintro (h | h | h)
   ·exact .inl (.inl h)
   ·exact .inl (.inr h)
   ·exact .inr h
theorem add1_nodup {out : List Wd} {r : Wd} (h : out.Nodup) : (add1 out r).Nodup := by
 unfold add1
 split
 ·exact h
 ·rename_i hm
  rw [List.nodup_append]
  refine ⟨h, by simp, fun a ha b hb => ?_⟩
  obtain rfl : b = r := by simpa using hb
  rintro rfl
  exact hm ha
theorem addL_nodup : ∀ (l out : List Wd), out.Nodup → (addL out l).Nodup
 | [], out, h => h
 | r :: l, out, h => addL_nodup l (add1 out r) (add1_nodup h)
theorem add1_get {out : List Wd} {r x : Wd} {j : Nat} (h : out[j]? = some x) : (add1 out r)[j]? = some x := by
 unfold add1
 split
 ·exact h
 ·rw [List.getElem?_append_left (List.getElem?_eq_some_iff.1 h).1]; exact h
theorem addL_get {x : Wd} {j : Nat} : ∀ (l out : List Wd), out[j]? = some x → (addL out l)[j]? = some x
 | [], out, h => h
 | r :: l, out, h => addL_get l (add1 out r) (add1_get h)
theorem addL_len (l out : List Wd) : out.length ≤ (addL out l).length := by
 induction l generalizing out with
 | nil => exact Nat.le_refl _
 | cons r l ih =>
  refine Nat.le_trans ?_ (ih (add1 out r))
  unfold add1
  split
  ·exact Nat.le_refl _
  ·rw [List.length_append]; omega
def sufs (W : List Wd) : List Wd := W.flatMap fun x => (List.range (x.length + 1)).map fun k => x.drop k
theorem sufs_iff {W : List Wd} {r : Wd} : r ∈ sufs W ↔ ∃ x t, x ∈ W ∧ x = t ++ r := by
 unfold sufs
 rw [List.mem_flatMap]
 constructor
 ·rintro ⟨x, hx, h⟩
  obtain ⟨k, _, rfl⟩ := List.mem_map.1 h
  exact ⟨x, x.take k, hx, (List.take_append_drop k x).symm⟩
 ·rintro ⟨x, t, hx, h⟩
  exact ⟨x, hx, List.mem_map.2 ⟨t.length, List.mem_range.2 (by rw [h, List.length_append]; omega), by rw [h, List.drop_left]⟩⟩
theorem Nxt.suf {W : List Wd} {r u : Wd} (hr : r ∈ sufs W) (h : Nxt W r u) : u ∈ sufs W := by
 obtain ⟨x, hx, e | ⟨e, _⟩⟩ := h
 ·obtain ⟨y, t, hy, e2⟩ := sufs_iff.1 hr
  exact sufs_iff.2 ⟨y, t ++ x, hy, by rw [e2, e, List.append_assoc]⟩
 ·exact sufs_iff.2 ⟨x, r, hx, e⟩
theorem Fst.suf {W : List Wd} {r : Wd} (h : Fst W r) : r ∈ sufs W := by
 obtain ⟨_, x, y, _, hy, e⟩ := h
 exact sufs_iff.2 ⟨y, x, hy, e⟩
def more (W : List Wd) (r : Wd) : List Wd := if r = [] then [] else nxtL W r
def resF (W : List Wd) : Nat → Nat → List Wd → List Wd
 | 0, _, out => out
 | f + 1, i, out => match out[i]? with
  | none => out
  | some r => resF W f (i + 1) (addL out (more W r))
def res (W : List Wd) : List Wd := resF W ((sufs W).length + 1) 0 (addL [] (fstL W))
def Good (W out : List Wd) : Prop := out.Nodup ∧ ∀ r ∈ out, r ∈ sufs W
theorem Good.len {W out : List Wd} (h : Good W out) : out.length ≤ (sufs W).length := sub_len2 _ _ h.1 h.2
theorem Good.more {W out : List Wd} {r : Wd} (h : Good W out) (hr : r ∈ out) : Good W (addL out (more W r)) :=
 ⟨addL_nodup _ _ h.1, fun x hx => by
  rcases (addL_mem _ _).1 hx with e | e
  ·exact h.2 x e
  ·unfold Sar.more at e
   split at e
   ·cases e
   ·exact (nxtL_iff.1 e).suf (h.2 r hr)⟩
theorem Good.one (W : List Wd) : Good W (addL [] (fstL W)) :=
 ⟨addL_nodup _ _ List.nodup_nil, fun x hx => by
  rcases (addL_mem _ _).1 hx with e | e
  ·cases e
  ·exact (fstL_iff.1 e).suf⟩
theorem resGo_step {W out : List Wd} {f i : Nat} {r : Wd} (h : out[i]? = some r) : resF W (f + 1) i out = resF W f (i + 1) (addL out (more W r)) := by
 rw [show resF W (f + 1) i out = (match out[i]? with | none => out | some r => resF W f (i + 1) (addL out (more W r))) from rfl, h]
theorem resGo_end {W out : List Wd} {f i : Nat} (h : out.length ≤ i) : resF W f i out = out := by
 cases f with
 | zero => rfl
 | succ f => rw [show resF W (f + 1) i out = (match out[i]? with | none => out | some r => resF W f (i + 1) (addL out (more W r))) from rfl, List.getElem?_eq_none h]
theorem resGo_closed {W : List Wd} : ∀ (f i : Nat) (out : List Wd), f + i = (sufs W).length + 1 → i ≤ out.length → Good W out →
  (∀ j r, j < i → out[j]? = some r → r ≠ [] → ∀ u, Nxt W r u → u ∈ out) →
  (∀ x ∈ out, x ∈ resF W f i out) ∧ Good W (resF W f i out) ∧ ∀ r ∈ resF W f i out, r ≠ [] → ∀ u, Nxt W r u → u ∈ resF W f i out
 | 0, i, out, hf, hi, hg, _ => by have := hg.len; omega
 | f + 1, i, out, hf, hi, hg, hc => by
  by_cases hil : i < out.length
  ·have hr : out[i]? = some out[i] := List.getElem?_eq_getElem hil
   rw [resGo_step hr]
   have hlen := addL_len (more W out[i]) out
   obtain ⟨a, b, c⟩ := resGo_closed f (i + 1) (addL out (more W out[i])) (by omega) (by omega) (hg.more (List.getElem_mem hil)) fun j r hj hjr h0 u hu => by
    have hjl : j < out.length := by omega
    have hj2 : out[j]? = some out[j] := List.getElem?_eq_getElem hjl
    have e := addL_get (more W out[i]) out hj2
    rw [hjr] at e
    have e' : r = out[j] := Option.some.inj e
    subst e'
    by_cases h : j < i
    ·exact (addL_mem _ _).2 (.inl (hc j _ h hj2 h0 u hu))
    ·obtain rfl : j = i := by omega
     refine (addL_mem _ _).2 (.inr ?_)
     unfold Sar.more
     rw [if_neg h0]
     exact nxtL_iff.2 hu
   exact ⟨fun x hx => a x ((addL_mem _ _).2 (.inl hx)), b, c⟩
  ·rw [resGo_end (by omega)]
   refine ⟨fun x hx => hx, hg, fun r hr h0 u hu => ?_⟩
   obtain ⟨j, hj, rfl⟩ := List.getElem_of_mem hr
   exact hc j _ (by omega) (List.getElem?_eq_getElem hj) h0 u hu
theorem res_closed (W : List Wd) : Closed W (res W) := by
 obtain ⟨a, _, c⟩ := resGo_closed ((sufs W).length + 1) 0 (addL [] (fstL W)) rfl (Nat.zero_le _) (Good.one W) fun j r h => by omega
 exact ⟨fun r hr => a r ((addL_mem _ _).2 (.inr (fstL_iff.2 hr))), c⟩
theorem resGo_least {W S : List Wd} (hS : Closed W S) : ∀ (f i : Nat) (out : List Wd), (∀ x ∈ out, x ∈ S) → ∀ x ∈ resF W f i out, x ∈ S
 | 0, _, _, h => h
 | f + 1, i, out, h => by
  by_cases hil : i < out.length
  ·rw [resGo_step (List.getElem?_eq_getElem hil)]
   refine resGo_least hS f (i + 1) _ fun x hx => ?_
   rcases (addL_mem _ _).1 hx with e | e
   ·exact h x e
   ·unfold more at e
    split at e
    ·cases e
    ·rename_i h0
     exact hS.nxt _ (h _ (List.getElem_mem hil)) h0 x (nxtL_iff.1 e)
  ·rw [resGo_end (by omega)]; exact h
theorem res_least {W S : List Wd} (hS : Closed W S) : ∀ x ∈ res W, x ∈ S := resGo_least hS _ _ _ fun x hx => by
 rcases (addL_mem _ _).1 hx with e | e
 ·cases e
 ·exact hS.fst x (fstL_iff.1 e)
theorem proof_ok {W S : List Wd} (hS : Closed W S) (h : [] ∉ S) : [] ∉ res W := fun e => h (res_least hS _ e)
end Go.Proofs.YtbnpjoiojhnimaaGreatDoor.Sar
namespace Go.Proofs.YtbnpjoiojhnimaaGreatDoor
def spl (xs : List ByteArray) : List Int → List UInt8 → Bool
 | [], u => u.isEmpty
 | i :: l, u => if i < 0 ∨ (xs.length : Int) ≤ i then false else if Lib.hasPrefix u (xs.getD i.toNat ⟨#[]⟩).data.toList then spl xs l (Lib.trimPrefix u (xs.getD i.toNat ⟨#[]⟩).data.toList) else false
theorem spl_out {xs : List ByteArray} {l : List Int} {k : Nat} {u : List UInt8} (h : k < l.length) (h0 : l[k] < 0 ∨ (xs.length : Int) ≤ l[k]) : spl xs (l.drop k) u = false := by
 rw [List.drop_eq_getElem_cons h, spl, if_pos h0]
theorem spl_miss {xs : List ByteArray} {l : List Int} {k : Nat} {u : List UInt8} (h : k < l.length) (h0 : Lib.hasPrefix u (xs.getD l[k].toNat ⟨#[]⟩).data.toList = false) : spl xs (l.drop k) u = false := by
 rw [List.drop_eq_getElem_cons h, spl]
 split
 ·rfl
 ·rw [if_neg (by rw [h0]; simp)]
theorem spl_step {xs : List ByteArray} {l : List Int} {k : Nat} {u : List UInt8} (h : k < l.length) (h0 : ¬ (l[k] < 0 ∨ (xs.length : Int) ≤ l[k])) (h1 : Lib.hasPrefix u (xs.getD l[k].toNat ⟨#[]⟩).data.toList = true) :
  spl xs (l.drop k) u = spl xs (l.drop (k + 1)) (Lib.trimPrefix u (xs.getD l[k].toNat ⟨#[]⟩).data.toList) := by
 rw [List.drop_eq_getElem_cons h, spl, if_neg h0, if_pos h1]
def lof (xs : List ByteArray) : List (List UInt8) := xs.map fun x => x.data.toList
theorem lof_len (xs : List ByteArray) : (lof xs).length = xs.length := by unfold lof; simp
theorem lof_getD {xs : List ByteArray} {i : Nat} (h : i < xs.length) : (lof xs).getD i [] = (xs.getD i ⟨#[]⟩).data.toList := by
 unfold lof; simp [List.getD_eq_getElem?_getD, List.getElem?_eq_getElem h]
theorem lof_get {xs : List ByteArray} {i : Nat} (h : i < xs.length) : (lof xs)[i]'(by rw [lof_len]; exact h) = xs[i].data.toList := by unfold lof; simp
theorem spl_cat {xs : List ByteArray} : ∀ {l : List Int} {u : List UInt8}, spl xs l u = true → (∀ i ∈ l, 0 ≤ i ∧ i < xs.length) ∧ Sar.cat (lof xs) (l.map Int.toNat) = u
 | [], u, h => by
  refine ⟨fun i hi => absurd hi List.not_mem_nil, ?_⟩
  unfold spl at h
  have : u = [] := by simpa using h
  rw [this]; rfl
 | i :: l, u, h => by
  unfold spl at h
  split at h
  ·cases h
  ·rename_i h0
   split at h
   ·rename_i h1
    obtain ⟨g1, g2⟩ := spl_cat h
    have hi : i.toNat < xs.length := by omega
    refine ⟨fun j hj => ?_, ?_⟩
    ·rcases List.mem_cons.1 hj with rfl | hj
     ·omega
     ·exact g1 j hj
    ·rw [List.map_cons, Sar.cat_cons, g2, lof_getD hi, Lib.trimPrefix, if_pos h1]
     unfold Lib.hasPrefix at h1
     obtain ⟨t, rfl⟩ := List.isPrefixOf_iff_prefix.1 h1
     simp
   ·cases h
def ambV (xs : List ByteArray) (a b : List Int) (u : List UInt8) : Bool := !decide (a = b) && spl xs a u && spl xs b u
theorem amb_rest {q : Int} {xs : List ByteArray} {a b : List Int} {u : List UInt8} (hc : cdk q xs = 0) (h : ambV xs a b u = true) : [] ∈ Sar.res (lof xs) := by
 have C := cdk_zero hc
 unfold ambV at h
 simp only [Bool.and_eq_true, Bool.not_eq_true', decide_eq_false_iff_not] at h
 obtain ⟨⟨hne, h1⟩, h2⟩ := h
 obtain ⟨a1, a2⟩ := spl_cat h1
 obtain ⟨b1, b2⟩ := spl_cat h2
 refine Sar.amb (Sar.res_closed (lof xs)) (fun x hx => ?_) (fun i j hi hj e => ?_) (a.map Int.toNat) (b.map Int.toNat) (fun i hi => ?_) (fun i hi => ?_) (fun e => hne ?_) (a2.trans b2.symm)
 ·obtain ⟨y, hy, rfl⟩ := List.mem_map.1 hx
  intro h0
  exact (C.word y hy).1 (by simpa using congrArg List.length h0)
 ·rw [lof_len] at hi hj
  rw [lof_getD hi, lof_getD hj] at e
  refine C.inj hi hj ?_
  have e1 : ∀ {k : Nat} (hk : k < xs.length), xs.getD k ⟨#[]⟩ = xs[k] := fun hk => by simp [List.getD_eq_getElem?_getD, List.getElem?_eq_getElem hk]
  rw [e1 hi, e1 hj] at e
  cases hx : xs[i]; cases hy : xs[j]
  rw [hx, hy] at e
  simpa using e
 ·obtain ⟨z, hz, rfl⟩ := List.mem_map.1 hi
  have := a1 z hz
  rw [lof_len]; omega
 ·obtain ⟨z, hz, rfl⟩ := List.mem_map.1 hi
  have := b1 z hz
  rw [lof_len]; omega
 ·have key : ∀ (l m : List Int), (∀ i ∈ l, 0 ≤ i) → (∀ i ∈ m, 0 ≤ i) → l.map Int.toNat = m.map Int.toNat → l = m := by
   intro l
   induction l with
   | nil => intro m _ _ h; cases m with | nil => rfl | cons y m => simp at h
   | cons x l ih =>
    intro m hl hm h
    cases m with
    | nil => simp at h
    | cons y m =>
     simp only [List.map_cons, List.cons.injEq] at h
     have hx := hl x (by simp)
     have hy := hm y (by simp)
     rw [ih m (fun i hi => hl i (by simp [hi])) (fun i hi => hm i (by simp [hi])) h.2]
     congr 1; omega
  exact key a b (fun i hi => (a1 i hi).1) (fun i hi => (b1 i hi).1) e
end Go.Proofs.YtbnpjoiojhnimaaGreatDoor
namespace Go.Proofs.YtbnpjoiojhnimaaGreatDoor
open Go.RowKit
set_option maxRecDepth 100000 in
set_option maxHeartbeats 1000000 in
theorem slEqualI_any (xs ys : List Int) (A A' : Option Addr) (c c' : Nat) (w : World) (h1 : RowI w A xs) (h2 : RowI w A' ys) (hb : xs.length ≤ 4294967296) (hb' : ys.length ≤ 4294967296) :
  Calls Tryz.prog 20 #[.slice A xs.length c, .slice A' ys.length c'] w fun e w' => e = .returned (.bool (decide (xs = ys))) ∧ ∃ q, w' = w.drewN q := by
 by_cases hl : xs.length = ys.length
 ·have H1 := hide h1
  have H2 := hide h2
  have HL := hide hl
  rw [← hl]
  have hn : (((xs.length : Int)) != (xs.length : Int)) = false := by simp
  clear h1 h2 hl
  go_enter Tryz.func20, Tryz.ntmps20
  go_wp2
  go_loopw [13] (fun i wr => ∃ k q : Nat, k ≤ xs.length ∧ i = .int .i64 k ∧ Hid (∀ j (hj : j < xs.length) (hj2 : j < ys.length), j < k → xs[j] = ys[j]) ∧ wr = w.drewN q) (fun i _ => xs.length - (intOf i).toNat)
  case atStart => exact ⟨0, 0, Nat.zero_le _, rfl, hide fun j _ _ h => absurd h (by omega), rfl⟩
  case round =>
   obtain ⟨k, q, hk, rfl, hsame, rfl⟩ := hrel
   by_cases hlt : k < xs.length
   ·have hlt2 : k < ys.length := by have := HL.out; omega
    obtain ⟨b1, o1, rfl, _, hc1⟩ := H1.out (by omega)
    obtain ⟨b2, o2, rfl, _, hc2⟩ := H2.out (by omega)
    have c1 := hc1 k hlt
    have c2 := hc2 k hlt2
    obtain ⟨a, ha⟩ : ∃ a, a = xs[k] := ⟨_, rfl⟩
    obtain ⟨b, hb⟩ : ∃ b, b = ys[k] := ⟨_, rfl⟩
    rw [← ha] at c1
    rw [← hb] at c2
    have HA := hide ha
    have HBB := hide hb
    clear ha hb hc1 hc2
    have hk0 : (0 : Int) ≤ (k : Int) := by omega
    have hk1 : (k : Int) < (xs.length : Int) := by omega
    go_wp2_with fail
    go_quiet (fail)
    by_cases hab : a = b
    ·have hbb : (a != b) = false := by simp [hab]
     rw [hbb]
     have HAB := hide hab
     clear hbb hab c1 c2
     go_wp2
     go_roundw
     case rel =>
      refine ⟨k + 1, q + nq, by omega, by go_num, hide fun j hj hj2 hjk => ?_, by simp⟩
      by_cases e : j < k
      ·exact hsame.out j hj hj2 e
      ·obtain rfl : j = k := by omega
       rw [← HA.out, ← HBB.out]; exact HAB.out
     case measure => simp [intOf]; omega
    ·have hbb : (a != b) = true := by simp [hab]
     rw [hbb]
     have HAB := hide hab
     clear hbb hab c1 c2
     go_wp2
     go_ret
     refine ⟨?_, q + nq, by simp⟩
     have hne : decide (xs = ys) = false := by
      rw [decide_eq_false_iff_not]
      intro e
      subst e
      exact HAB.out (by rw [HA.out, HBB.out])
     rw [hne]; rfl
   ·obtain rfl : k = xs.length := by omega
    go_wp2
    go_ret
    refine ⟨?_, q, rfl⟩
    have he : decide (xs = ys) = true := by
     rw [decide_eq_true_iff]
     exact List.ext_getElem HL.out fun j h1 h2 => hsame.out j h1 h2 h1
    rw [he]; rfl
 ·have hn : (((xs.length : Int)) != (ys.length : Int)) = true := by rw [bne_iff_ne]; omega
  have he := hide (show decide (xs = ys) = false by rw [decide_eq_false_iff_not]; intro e; exact hl (by rw [e]))
  clear h1 h2 hl
  go_enter Tryz.func20, Tryz.ntmps20
  go_wp2
  go_ret
  exact ⟨by rw [he.out]; rfl, 0, rfl⟩
set_option maxRecDepth 100000 in
set_option maxHeartbeats 4000000 in
theorem spells_any (q : Int) (xs : List ByteArray) (A : Option Addr) (c : Nat) (l : List Int) (D : Option Addr) (d : Nat) (s : ByteArray) (w : World) (hR : RowT w A xs) (hc : xs.length ≤ c) (hcm : c ≤ 9223372036854775807)
  (hD : RowI w D l) (hlm : l.length ≤ 4294967296) :
  Calls Tryz.prog 136 #[.agg #[.int .i64 q, .slice A xs.length c], .slice D l.length d, .string s] w fun e w' => e = .returned (.bool (spl xs l s.data.toList)) ∧ w' = w.alloc (Obj.cells #[.int .i64 q, .slice A xs.length c] 27) := by
 obtain ⟨w1, hw1⟩ : ∃ w1, w.alloc (Obj.cells #[.int .i64 q, .slice A xs.length c] 27) = w1 := ⟨_, rfl⟩
 have hB1 := (Below.refl w.heap.size w).alloc (Nat.le_refl _) (Obj.cells #[.int .i64 q, .slice A xs.length c] 27)
 rw [hw1] at hB1
 have HR := hide (hR.below hB1)
 have HD := hide (hD.below hB1)
 clear hR hD
 obtain ⟨R, hRR⟩ : ∃ R, spl xs l s.data.toList = R := ⟨_, rfl⟩
 rw [hRR]
 have HRR := hide (show R = spl xs (l.drop 0) s.data.toList from hRR.symm)
 clear hRR
 obtain ⟨B, hB⟩ : ∃ B, w.heap.size = B := ⟨_, rfl⟩
 have p1 : w1.cell? ⟨B, 1, none⟩ = some (.slice A xs.length c) := by
  have hg0 := heap_alloc_new w (Obj.cells #[.int .i64 q, .slice A xs.length c] 27)
  rw [hw1, hB] at hg0
  have := cell_of_row w1 B 1 _ _ _ hg0
  simpa using this
 have P1 := hide p1
 have HW1 := hide hw1
 clear p1 hw1 hB1
 go_enter Tryz.func136, Tryz.ntmps136
 go_wp2
 go_loopg [13, 2] l.length (fun gk iv sv wr => ∃ (k : Nat) (s : ByteArray), gk = l.length - k ∧ iv = .int .i64 k ∧ sv = .string s ∧ k ≤ l.length ∧ Hid (R = spl xs (l.drop k) s.data.toList) ∧ wr = w1)
 case atStart => exact ⟨0, s, rfl, rfl, rfl, Nat.zero_le _, HRR, HW1.out⟩
 case round =>
  clear s HRR
  obtain ⟨k, s, hgk, rfl, rfl, hk, HK, rfl⟩ := hrel
  have p1 := P1.out
  by_cases hlt : k < l.length
  ·obtain ⟨b, o, rfl, hb, hcell⟩ := HD.out (by omega)
   have c1 := hcell k hlt
   obtain ⟨x, hx⟩ : ∃ x, x = l[k] := ⟨_, rfl⟩
   rw [← hx] at c1
   have hk0 : (0 : Int) ≤ (k : Int) := by omega
   have hk1 : (k : Int) < (l.length : Int) := by omega
   have HX := hide hx
   clear hcell hx
   by_cases h0 : x < 0
   ·have HV := hide (show R = false by rw [HK.out, spl_out hlt (by rw [← HX.out]; exact Or.inl h0)])
    go_wp2
    go_ret
    exact ⟨by rw [HV.out]; rfl, HW1.out.symm⟩
   by_cases h1 : (xs.length : Int) ≤ x
   ·have HV := hide (show R = false by rw [HK.out, spl_out hlt (by rw [← HX.out]; exact Or.inr h1)])
    have h2 : decide ((xs.length : Int) ≤ x) = true := decide_eq_true h1
    go_wp2
    go_ret
    exact ⟨by rw [HV.out]; rfl, HW1.out.symm⟩
   obtain ⟨n, hn⟩ : ∃ n : Nat, x = n := ⟨x.toNat, by omega⟩
   subst hn
   have hnl : n < xs.length := by omega
   obtain ⟨b', o', rfl, hb', hcell'⟩ := HR.out (by omega)
   have c2 := hcell' n hnl
   obtain ⟨y, hy⟩ : ∃ y, y = xs[n] := ⟨_, rfl⟩
   rw [← hy] at c2
   have hy2 : xs.getD l[k].toNat ⟨#[]⟩ = y := by
    rw [← HX.out, hy]; simp [List.getD_eq_getElem?_getD, List.getElem?_eq_getElem hnl]
   have hn1 : (n : Int) < (xs.length : Int) := by omega
   have hn0 : (0 : Int) ≤ (n : Int) := by omega
   have HM := hide (fun h => spl_miss (xs := xs) (u := s.data.toList) hlt h)
   have HS := hide (fun h => spl_step (xs := xs) (u := s.data.toList) hlt (by rw [← HX.out]; omega) h)
   rw [hy2] at HM HS
   have HC := hide (fun W => strings_CutPrefix s y W)
   clear hcell' hy hy2
   by_cases h2 : Lib.hasPrefix s.data.toList y.data.toList = true
   ·have HN := hide (show R = spl xs (l.drop (k + 1)) (⟨(Lib.trimPrefix s.data.toList y.data.toList).toArray⟩ : ByteArray).data.toList by rw [HK.out]; exact HS.out h2)
    rw [h2] at HC
    generalize (⟨(Lib.trimPrefix s.data.toList y.data.toList).toArray⟩ : ByteArray) = s' at HC HN
    clear h2 HS HM
    go_wp2_with (go_at_call 194; refine (HC.out _).mono ?_; rintro e w' ⟨rfl, rfl⟩)
    go_roundg (l.length - (k + 1))
    case measure => omega
    case rel => exact ⟨k + 1, s', rfl, by go_num, rfl, hlt, HN, rfl⟩
   ·have h3 : Lib.hasPrefix s.data.toList y.data.toList = false := by simpa using h2
    have HV := hide (show R = false by rw [HK.out]; exact HM.out h3)
    rw [h3] at HC
    clear h2 h3 HS HM
    go_wp2_with (go_at_call 194; refine (HC.out _).mono ?_; rintro e w' ⟨rfl, rfl⟩)
    go_ret
    exact ⟨by rw [HV.out]; rfl, HW1.out.symm⟩
  ·obtain rfl : k = l.length := by omega
   have HV := hide (show R = s.toList.isEmpty by rw [HK.out, List.drop_length, Lib.toList_data]; unfold spl; rfl)
   go_wp2
   go_ret
   exact ⟨by rw [HV.out]; rfl, HW1.out.symm⟩
def cka (q : Int) (xs : List ByteArray) (a b : List Int) (u : List UInt8) : Int := if cdk q xs ≠ 0 then 1 else if ambV xs a b u then 0 else 23
set_option maxRecDepth 100000 in
set_option maxHeartbeats 4000000 in
theorem checkAmb_any (q : Int) (xs : List ByteArray) (A : Option Addr) (c : Nat) (a b : List Int) (D E : Option Addr) (d e : Nat) (s : ByteArray) (w : World) (hR : RowT w A xs) (hc : xs.length ≤ c) (hcm : c ≤ 9223372036854775807)
  (hD : RowI w D a) (hE : RowI w E b) (ha : a.length ≤ 4294967296) (hb : b.length ≤ 4294967296) :
  Calls Tryz.prog 91 #[.agg #[.int .i64 q, .slice A xs.length c], .agg #[.string s, .slice D a.length d, .slice E b.length e]] w fun ed w' => ed = .returned (.int .i64 (cka q xs a b s.data.toList)) ∧ Below w.heap.size w w' := by
 obtain ⟨R, hRR⟩ : ∃ R, cka q xs a b s.data.toList = R := ⟨_, rfl⟩
 rw [hRR]
 obtain ⟨w1, hw1⟩ : ∃ w1, (w.alloc (Obj.cells #[.int .i64 q, .slice A xs.length c] 27)).alloc (Obj.cells #[.string s, .slice D a.length d, .slice E b.length e] 96) = w1 := ⟨_, rfl⟩
 have hB1 := ((Below.refl w.heap.size w).alloc (Nat.le_refl _) (Obj.cells #[.int .i64 q, .slice A xs.length c] 27)).alloc (by simp) (Obj.cells #[.string s, .slice D a.length d, .slice E b.length e] 96)
 rw [hw1] at hB1
 have hR1 := hR.below hB1
 have hD1 := hD.below hB1
 have hE1 := hE.below hB1
 have HC := hide (ccheck_any q xs A c w1 hR1 hc hcm)
 have g0 : w1.heap[w.heap.size]? = some (.cells #[.int .i64 q, .slice A xs.length c] 27 (0, 0)) := by
  rw [← hw1, heap_alloc_old _ _ (by simp)]; exact heap_alloc_new w _
 have g1 : w1.heap[w.heap.size + 1]? = some (.cells #[.string s, .slice D a.length d, .slice E b.length e] 96 (0, 0)) := by
  rw [← hw1]
  have := heap_alloc_new (w.alloc (Obj.cells #[.int .i64 q, .slice A xs.length c] 27)) (Obj.cells #[.string s, .slice D a.length d, .slice E b.length e] 96)
  simpa using this
 have hs1 : w1.heap.size = w.heap.size + 1 + 1 := by rw [← hw1]; simp
 by_cases h0 : cdk q xs = 0
 ·have hn : (cdk q xs != 0) = false := by rw [bne_eq_false_iff_eq]; exact h0
  have hV : R = if ambV xs a b s.data.toList then 0 else 23 := by rw [← hRR, cka, if_neg (by simpa using h0)]
  have HB1 := hide hB1
  have HW1 := hide hw1
  have HS1 := hide hs1
  have HX := hide (fun w' (hb' : Below w1.heap.size w1 w') =>
   show RowT w' A xs ∧ RowI w' D a ∧ RowI w' E b ∧ w'.cell? ⟨w.heap.size, 0, none⟩ = some (.int .i64 q) ∧ w'.cell? ⟨w.heap.size, 1, none⟩ = some (.slice A xs.length c) ∧
    w'.cell? ⟨w.heap.size + 1, 0, none⟩ = some (.string s) ∧ w'.cell? ⟨w.heap.size + 1, 1, none⟩ = some (.slice D a.length d) ∧ w'.cell? ⟨w.heap.size + 1, 2, none⟩ = some (.slice E b.length e) by
   have k0 := (hb'.block w.heap.size (by omega)).trans g0
   have k1 := (hb'.block (w.heap.size + 1) (by omega)).trans g1
   refine ⟨hR1.below hb', hD1.below hb', hE1.below hb', ?_, ?_, ?_, ?_, ?_⟩
   ·rw [cell_of_row w' _ 0 _ _ _ k0]; rfl
   ·rw [cell_of_row w' _ 1 _ _ _ k0]; rfl
   ·rw [cell_of_row w' _ 0 _ _ _ k1]; rfl
   ·rw [cell_of_row w' _ 1 _ _ _ k1]; rfl
   ·rw [cell_of_row w' _ 2 _ _ _ k1]; rfl)
  have HE := hide (fun W h1 h2 => slEqualI_any a b D E d e W h1 h2 ha hb)
  have H1 := hide (fun W h1 h2 => spells_any q xs A c a D d s W h1 hc hcm h2 ha)
  have H2 := hide (fun W h1 h2 => spells_any q xs A c b E e s W h1 hc hcm h2 hb)
  unfold ambV at hV
  clear hRR hB1 hw1 hR1 hD1 hE1 hR hD hE g0 g1 hs1
  generalize cdk q xs = z at HC hn h0
  generalize spl xs a s.data.toList = ra at H1 hV
  generalize spl xs b s.data.toList = rb at H2 hV
  generalize decide (a = b) = rc at HE hV
  clear h0
  have HV := hide hV
  clear hV
  go_enter Tryz.func91, Tryz.ntmps91
  go_wp2_with (go_at_call 112; rw [HW1.out]; refine HC.out.mono ?_; rintro e w' ⟨rfl, hb'⟩; obtain ⟨r1, r2, r3, c0, c1, c2, c3, c4⟩ := HX.out w' hb'; have HB' := hide hb'; have HR1 := hide r1; have HR2 := hide r2; have HR3 := hide r3; clear hb' r1 r2 r3)
  refine (HE.out w' HR2.out HR3.out).mono ?_
  rintro e1 w2 ⟨rfl, n, rfl⟩
  have hB2 : Below w'.heap.size w' (w'.drewN n) := belowN (Below.refl _ _) n
  have G1 := hide (H1.out (w'.drewN n) (HR1.out.below hB2) (HR2.out.below hB2))
  have hB3 := hB2.alloc (Nat.le_refl _) (Obj.cells #[.int .i64 q, .slice A xs.length c] 27)
  have G2 := hide (fun w3 (h3 : w3 = (w'.drewN n).alloc (Obj.cells #[.int .i64 q, .slice A xs.length c] 27)) => H2.out w3 (h3 ▸ HR1.out.below hB3) (h3 ▸ HR3.out.below hB3))
  have HX3 := hide (fun w3 (h3 : w3 = (w'.drewN n).alloc (Obj.cells #[.int .i64 q, .slice A xs.length c] 27)) => HX.out w3 (HB'.out.trans ((h3 ▸ hB3).mono HB'.out.size)))
  have HB3 := hide hB3
  have HB4 := hide (hB3.alloc (by simp) (Obj.cells #[.int .i64 q, .slice A xs.length c] 27))
  have HB2 := hide hB2
  clear hB2 hB3
  have hw1w : w.heap.size ≤ w1.heap.size := HB1.out.size
  have hw1' : w1.heap.size ≤ w'.heap.size := HB'.out.size
  have HF := hide (fun W (h : Below w'.heap.size w' W) => HB1.out.trans ((HB'.out.mono hw1w).trans (h.mono (Nat.le_trans hw1w hw1'))))
  cases rc
  ·cases ra
   ·have HV := hide (show R = 23 by rw [HV.out]; rfl)
    go_wp2_with (go_at_call 136; refine G1.out.mono ?_; rintro e w3 ⟨rfl, rfl⟩)
    go_ret
    exact ⟨by rw [HV.out]; rfl, HF.out _ HB3.out⟩
   ·cases rb
    ·have HV := hide (show R = 23 by rw [HV.out]; rfl)
     go_wp2_with (first | (go_at_call 136; with_reducible (refine G1.out.mono ?_); rintro e w3 ⟨rfl, h3⟩; obtain ⟨-, -, -, d0, d1, d2, d3, d4⟩ := HX3.out w3 h3; have H3 := hide h3; clear h3) | (go_at_call 136; with_reducible (refine (G2.out w3 H3.out).mono ?_); rintro e w4 ⟨rfl, h4⟩; have H4 := hide h4; clear h4))
     go_ret
     exact ⟨by rw [HV.out]; rfl, HF.out _ (by rw [H4.out, H3.out]; exact HB4.out)⟩
    ·have HV := hide (show R = 0 by rw [HV.out]; rfl)
     go_wp2_with (first | (go_at_call 136; with_reducible (refine G1.out.mono ?_); rintro e w3 ⟨rfl, h3⟩; obtain ⟨-, -, -, d0, d1, d2, d3, d4⟩ := HX3.out w3 h3; have H3 := hide h3; clear h3) | (go_at_call 136; with_reducible (refine (G2.out w3 H3.out).mono ?_); rintro e w4 ⟨rfl, h4⟩; have H4 := hide h4; clear h4))
     go_ret
     exact ⟨by rw [HV.out]; rfl, HF.out _ (by rw [H4.out, H3.out]; exact HB4.out)⟩
  ·have HV := hide (show R = 23 by rw [HV.out]; rfl)
   go_wp2
   go_ret
   exact ⟨by rw [HV.out]; rfl, HF.out _ HB2.out⟩
 ·have hn : (cdk q xs != 0) = true := by rw [bne_iff_ne]; exact h0
  have HV := hide (show R = 1 by rw [← hRR, cka, if_pos h0])
  have HB1 := hide hB1
  have HW1 := hide hw1
  clear hRR hB1 hw1 hR1 hD1 hE1 hR hD hE g0 g1 hs1
  generalize cdk q xs = z at HC hn h0
  clear h0
  go_enter Tryz.func91, Tryz.ntmps91
  go_wp2_with (go_at_call 112; rw [HW1.out]; refine HC.out.mono ?_; rintro e w' ⟨rfl, hb'⟩; have HB' := hide hb'; clear hb')
  go_ret
  exact ⟨by rw [HV.out]; rfl, HB1.out.trans (HB'.out.mono (by have := HB1.out.size; omega))⟩
set_option maxHeartbeats 1000000 in
theorem eqEdge_nil (A : Option Addr) (n c : Nat) (w : World) :
  Calls Tryz.prog 100 #[.slice A n c, .slice none 0 0] w fun e w' => e = .returned (.bool (decide (n = 0))) ∧ w' = w := by
 by_cases h : n = 0
 ·subst h
  go_enter Tryz.func100, Tryz.ntmps100
  go_wp2
  go_loopg [13] 0 (fun gk iv wr => gk = 0 ∧ iv = .int .i64 0 ∧ wr = w)
  case atStart => exact ⟨rfl, rfl, rfl⟩
  case round =>
   obtain ⟨rfl, rfl, rfl⟩ := hrel
   go_wp2
   go_ret
   exact ⟨rfl, rfl⟩
 ·have hb : ((n : Int) != 0) = true := by rw [bne_iff_ne]; omega
  rw [decide_eq_false h]
  have H := hide h
  clear h
  go_enter Tryz.func100, Tryz.ntmps100
  go_wp2
  go_ret
  exact ⟨rfl, rfl⟩
set_option maxHeartbeats 1000000 in
theorem eqStr_nil (A : Option Addr) (n c : Nat) (w : World) :
  Calls Tryz.prog 19 #[.slice A n c, .slice none 0 0] w fun e w' => e = .returned (.bool (decide (n = 0))) ∧ w' = w := by
 by_cases h : n = 0
 ·subst h
  go_enter Tryz.func19, Tryz.ntmps19
  go_wp2
  go_loopg [13] 0 (fun gk iv wr => gk = 0 ∧ iv = .int .i64 0 ∧ wr = w)
  case atStart => exact ⟨rfl, rfl, rfl⟩
  case round =>
   obtain ⟨rfl, rfl, rfl⟩ := hrel
   go_wp2
   go_ret
   exact ⟨rfl, rfl⟩
 ·have hb : ((n : Int) != 0) = true := by rw [bne_iff_ne]; omega
  rw [decide_eq_false h]
  have H := hide h
  clear h
  go_enter Tryz.func19, Tryz.ntmps19
  go_wp2
  go_ret
  exact ⟨rfl, rfl⟩
set_option maxHeartbeats 1000000 in
theorem eqInt_nil (A : Option Addr) (n c : Nat) (w : World) :
  Calls Tryz.prog 20 #[.slice A n c, .slice none 0 0] w fun e w' => e = .returned (.bool (decide (n = 0))) ∧ w' = w := by
 by_cases h : n = 0
 ·subst h
  go_enter Tryz.func20, Tryz.ntmps20
  go_wp2
  go_loopg [13] 0 (fun gk iv wr => gk = 0 ∧ iv = .int .i64 0 ∧ wr = w)
  case atStart => exact ⟨rfl, rfl, rfl⟩
  case round =>
   obtain ⟨rfl, rfl, rfl⟩ := hrel
   go_wp2
   go_ret
   exact ⟨rfl, rfl⟩
 ·have hb : ((n : Int) != 0) = true := by rw [bne_iff_ne]; omega
  rw [decide_eq_false h]
  have H := hide h
  clear h
  go_enter Tryz.func20, Tryz.ntmps20
  go_wp2
  go_ret
  exact ⟨rfl, rfl⟩
set_option maxHeartbeats 1000000 in
theorem eqApiInt_nil (A : Option Addr) (n c : Nat) (w : World) :
  Calls Tryz.prog 60 #[.slice A n c, .slice none 0 0] w fun e w' => e = .returned (.bool (decide (n = 0))) ∧ w' = w := by
 by_cases h : n = 0
 ·subst h
  go_enter Tryz.func60, Tryz.ntmps60
  go_wp2
  go_loopg [13] 0 (fun gk iv wr => gk = 0 ∧ iv = .int .i64 0 ∧ wr = w)
  case atStart => exact ⟨rfl, rfl, rfl⟩
  case round =>
   obtain ⟨rfl, rfl, rfl⟩ := hrel
   go_wp2
   go_ret
   exact ⟨rfl, rfl⟩
 ·have hb : ((n : Int) != 0) = true := by rw [bne_iff_ne]; omega
  rw [decide_eq_false h]
  have H := hide h
  clear h
  go_enter Tryz.func60, Tryz.ntmps60
  go_wp2
  go_ret
  exact ⟨rfl, rfl⟩
set_option maxHeartbeats 1000000 in
theorem eqfInts_nil (A : Option Addr) (n c : Nat) (w : World) :
  Calls Tryz.prog 101 #[.slice A n c, .slice none 0 0, .func (.func 20) #[] #[]] w fun e w' => e = .returned (.bool (decide (n = 0))) ∧ w' = w := by
 by_cases h : n = 0
 ·subst h
  go_enter Tryz.func101, Tryz.ntmps101
  go_wp2
  go_loopg [17] 0 (fun gk iv wr => gk = 0 ∧ iv = .int .i64 0 ∧ wr = w)
  case atStart => exact ⟨rfl, rfl, rfl⟩
  case round =>
   obtain ⟨rfl, rfl, rfl⟩ := hrel
   go_wp2
   go_ret
   exact ⟨rfl, rfl⟩
 ·have hb : ((n : Int) != 0) = true := by rw [bne_iff_ne]; omega
  rw [decide_eq_false h]
  have H := hide h
  clear h
  go_enter Tryz.func101, Tryz.ntmps101
  go_wp2
  go_ret
  exact ⟨rfl, rfl⟩
set_option maxHeartbeats 1000000 in
theorem eqfSplits_nil (A : Option Addr) (n c : Nat) (w : World) :
  Calls Tryz.prog 58 #[.slice A n c, .slice none 0 0, .func (.func 59) #[] #[]] w fun e w' => e = .returned (.bool (decide (n = 0))) ∧ w' = w := by
 by_cases h : n = 0
 ·subst h
  go_enter Tryz.func58, Tryz.ntmps58
  go_wp2
  go_loopg [17] 0 (fun gk iv wr => gk = 0 ∧ iv = .int .i64 0 ∧ wr = w)
  case atStart => exact ⟨rfl, rfl, rfl⟩
  case round =>
   obtain ⟨rfl, rfl, rfl⟩ := hrel
   go_wp2
   go_ret
   exact ⟨rfl, rfl⟩
 ·have hb : ((n : Int) != 0) = true := by rw [bne_iff_ne]; omega
  rw [decide_eq_false h]
  have H := hide h
  clear h
  go_enter Tryz.func58, Tryz.ntmps58
  go_wp2
  go_ret
  exact ⟨rfl, rfl⟩
set_option maxHeartbeats 1000000 in
theorem eqfApiInts_nil (A : Option Addr) (n c : Nat) (w : World) :
  Calls Tryz.prog 104 #[.slice A n c, .slice none 0 0, .func (.func 60) #[] #[]] w fun e w' => e = .returned (.bool (decide (n = 0))) ∧ w' = w := by
 by_cases h : n = 0
 ·subst h
  go_enter Tryz.func104, Tryz.ntmps104
  go_wp2
  go_loopg [17] 0 (fun gk iv wr => gk = 0 ∧ iv = .int .i64 0 ∧ wr = w)
  case atStart => exact ⟨rfl, rfl, rfl⟩
  case round =>
   obtain ⟨rfl, rfl, rfl⟩ := hrel
   go_wp2
   go_ret
   exact ⟨rfl, rfl⟩
 ·have hb : ((n : Int) != 0) = true := by rw [bne_iff_ne]; omega
  rw [decide_eq_false h]
  have H := hide h
  clear h
  go_enter Tryz.func104, Tryz.ntmps104
  go_wp2
  go_ret
  exact ⟨rfl, rfl⟩
theorem listsI_nil (A : Option Addr) (n c : Nat) (w : World) :
  Calls Tryz.prog 57 #[.slice A n c, .slice none 0 0] w fun e w' => e = .returned (.bool (decide (n = 0))) ∧ w' = w := by
 go_enter Tryz.func57, Tryz.ntmps57
 go_wp2_with (go_at_call 101; refine (eqfInts_nil A n c _).mono ?_; rintro e w' ⟨rfl, rfl⟩)
 go_ret
 exact ⟨rfl, rfl⟩
theorem listsA_nil (A : Option Addr) (n c : Nat) (w : World) :
  Calls Tryz.prog 61 #[.slice A n c, .slice none 0 0] w fun e w' => e = .returned (.bool (decide (n = 0))) ∧ w' = w := by
 go_enter Tryz.func61, Tryz.ntmps61
 go_wp2_with (go_at_call 104; refine (eqfApiInts_nil A n c _).mono ?_; rintro e w' ⟨rfl, rfl⟩)
 go_ret
 exact ⟨rfl, rfl⟩
set_option maxHeartbeats 1000000 in
theorem graphs_nil (l s : Int) (A : Option Addr) (n c : Nat) (w : World) :
  Calls Tryz.prog 56 #[.agg #[.int .i64 l, .int .i64 s, .slice A n c], .agg #[.int .i64 0, .int .i64 0, .slice none 0 0]] w fun e w' => e = .returned (.bool ((l == 0) && (s == 0) && decide (n = 0))) ∧
   w' = (w.alloc (Obj.cells #[.int .i64 l, .int .i64 s, .slice A n c] 24)).alloc (Obj.cells #[.int .i64 0, .int .i64 0, .slice none 0 0] 24) := by
 have HE := hide (fun W => eqEdge_nil A n c W)
 generalize decide (n = 0) = b at HE
 by_cases h1 : l = 0
 ·have hb : (l == 0) = true := by rw [beq_iff_eq]; exact h1
  rw [hb]
  by_cases h2 : s = 0
  ·have hb2 : (s == 0) = true := by rw [beq_iff_eq]; exact h2
   rw [hb2]
   clear h1 h2
   go_enter Tryz.func56, Tryz.ntmps56
   go_wp2_with (go_at_call 100; refine (HE.out _).mono ?_; rintro e w' ⟨rfl, rfl⟩)
   go_ret
   exact ⟨rfl, rfl⟩
  ·have hb2 : (s == 0) = false := by rw [beq_eq_false_iff_ne]; exact h2
   rw [hb2]
   clear h1 h2
   go_enter Tryz.func56, Tryz.ntmps56
   go_wp2
   go_ret
   exact ⟨rfl, rfl⟩
 ·have hb : (l == 0) = false := by rw [beq_eq_false_iff_ne]; exact h1
  rw [hb]
  clear h1
  go_enter Tryz.func56, Tryz.ntmps56
  go_wp2
  go_ret
  exact ⟨rfl, rfl⟩
structure Sl where
 A : Option Addr
 n : Nat
 c : Nat
def Sl.v (s : Sl) : Value := .slice s.A s.n s.c
structure Crt where
 kind : Int
 gl : Int
 gs : Int
 ge : Sl
 cl : Int
 cw : Sl
 ml : Int
 mn : Sl
 pl : Int
 ps : Int
 pe : Sl
 pw : Sl
 pi : Int
 pr : Sl
 nu : Sl
 ix : Sl
 wo : Sl
 ro : Sl
 ta : Sl
def Crt.cells (x : Crt) : Array Value := #[.int .i64 x.kind, .int .i64 x.gl, .int .i64 x.gs, x.ge.v, .int .i64 x.cl, x.cw.v, .int .i64 x.ml, x.mn.v, .int .i64 x.pl, .int .i64 x.ps, x.pe.v, x.pw.v, .int .i64 x.pi, x.pr.v, x.nu.v, x.ix.v, x.wo.v, x.ro.v, x.ta.v]
def Sl.nil : Sl := ⟨none, 0, 0⟩
def Crt.nil (k : Int) : Crt := ⟨k, 0, 0, .nil, 0, .nil, 0, .nil, 0, 0, .nil, .nil, 0, .nil, .nil, .nil, .nil, .nil, .nil⟩
def Crt.none (x : Crt) (k : Int) : Bool := (x.kind == k) && ((x.gl == 0) && (x.gs == 0) && decide (x.ge.n = 0)) && (x.cl == 0) && decide (x.cw.n = 0) && (x.ml == 0) && decide (x.mn.n = 0) && ((x.pl == 0) && (x.ps == 0) && decide (x.pe.n = 0)) && decide (x.pw.n = 0) && (x.pi == 0) && decide (x.pr.n = 0) && decide (x.nu.n = 0) && decide (x.ix.n = 0) && decide (x.wo.n = 0) && decide (x.ro.n = 0) && decide (x.ta.n = 0)
end Go.Proofs.YtbnpjoiojhnimaaGreatDoor
