import Derived.Test.YtpppbkdbpbpinaaGreatDoorG33
import Derived.Test.YtpppbkdbpbpinaaGreatDoorG36
set_option linter.unusedSimpArgs false
set_option linter.unusedVariables false
/- eigenvector.Refute on valid graphs: its contract (printed by wip/mk_evf.py). -/
set_option linter.unusedVariables false
namespace Go.Proofs.YtpppbkdbpbpinaaGreatDoor
open Go.RowKit Go.Shelf
/-- m on the diagonal, less the edges -/
def aF (m : Int) (es : List Edg) : Nat → Nat → Int := es.foldl (fun acc e => fun i j => if i = e.f.toNat ∧ j = e.t.toNat then acc i j - 1 else acc i j) (fun i j => if j = i then m else 0)
theorem aFsnoc (m : Int) (es : List Edg) (e : Edg) : aF m (es ++ [e]) = fun i j => if i = e.f.toNat ∧ j = e.t.toNat then aF m es i j - 1 else aF m es i j := by
  unfold aF; rw [List.foldl_append]; rfl
theorem aFle (m : Int) (es : List Edg) (i j : Nat) : (aF m es i j).natAbs ≤ m.natAbs + es.length := by
  have key : ∀ (es : List Edg) (acc : Nat → Nat → Int) (C : Nat), (∀ i j, (acc i j).natAbs ≤ C) → ∀ i j, ((es.foldl (fun acc e => fun i j => if i = e.f.toNat ∧ j = e.t.toNat then acc i j - 1 else acc i j) acc) i j).natAbs ≤ C + es.length := by
    intro es
    induction es with
    | nil => intro acc C h i j; have := h i j; simp only [List.foldl_nil, List.length_nil]; omega
    | cons e t ih =>
      intro acc C h i j
      have h1 := ih (fun i j => if i = e.f.toNat ∧ j = e.t.toNat then acc i j - 1 else acc i j) (C + 1) (fun i j => by
        have h2 := h i j
        split <;> omega) i j
      simp only [List.foldl_cons, List.length_cons]
      omega
  exact key es _ m.natAbs (fun i j => by split <;> simp) i j
/-- the sums of the rows -/
def rsum (f : Nat → Nat → Int) (s : Nat) : Nat → Int
  | 0 => 0
  | k + 1 => rsum f s k + f s k
/-- the vector that 'Refute' tries -/
def outV (n : Nat) (m : Int) (es : List Edg) : Nat → Int := fun s => rsum (adjF n (aF m es)) s n
theorem rsumle {f : Nat → Nat → Int} {s U : Nat} : ∀ k, (∀ j, j < k → (f s j).natAbs ≤ U) → (rsum f s k).natAbs ≤ k * U
  | 0, _ => by simp [rsum]
  | k + 1, h => by
    have h1 := rsumle k (fun j hj => h j (by omega))
    have h2 := h k (Nat.lt_succ_self _)
    have h3 := Int.natAbs_add_le (rsum f s k) (f s k)
    simp only [rsum, Nat.add_mul, Nat.one_mul]
    omega
set_option maxRecDepth 100000 in
set_option maxHeartbeats 8000000 in
theorem evRefute_ok (L : Int) (n m : Nat) (es : List Edg) (A : Option Addr) (c : Nat) (w : World) (hG : okG L (n : Int) es = true) (hM : okM (m : Int) = true) (hn0 : 0 < n) (hn : n ≤ 32) (he : ∀ e ∈ es, inE n e) (hr : RowE w A es) :
    Calls Tryz.prog 40 #[.agg #[.int .i64 L, .int .i64 (n : Int), .slice A es.length c], .int .i64 (m : Int)] w fun e w' => Below w.heap.size w w' ∧
      ((refB n es m (outV n m es) = true ∧ ∃ G, e = .returned (.tuple #[.slice (some ⟨G, 0, none⟩) n n, .int .i64 0]) ∧ w.heap.size ≤ G ∧ SRow w' G (rowL n (outV n m es))) ∨
       (refB n es m (outV n m es) = false ∧ e = .returned (.tuple #[.slice none 0 0, .int .i64 15]))) := by
  have hm : 1 ≤ m ∧ m ≤ 256 := by
    unfold okM at hM
    simp only [Bool.and_eq_true, decide_eq_true_eq] at hM
    omega
  obtain ⟨_, _, hl⟩ := okG_size hG
  have hB0 : Below w.heap.size w (w.alloc (.cells #[.int .i64 L, .int .i64 (n : Int), .slice A es.length c] 32)) := (Below.refl _ w).alloc (Nat.le_refl _) _
  have hb0 : (w.alloc (.cells #[.int .i64 L, .int .i64 (n : Int), .slice A es.length c] 32)).heap[w.heap.size]? = some (.cells #[.int .i64 L, .int .i64 (n : Int), .slice A es.length c] 32 (0, 0)) := heap_alloc_new w _
  have HW := hide (evWhole_any L n m es A c (w.alloc (.cells #[.int .i64 L, .int .i64 (n : Int), .slice A es.length c] 32)) (hr.below hB0))
  rw [hG, hM, Bool.true_and] at HW
  have HBx := hide (fun W (hW : Below (w.alloc (.cells #[.int .i64 L, .int .i64 (n : Int), .slice A es.length c] 32)).heap.size (w.alloc (.cells #[.int .i64 L, .int .i64 (n : Int), .slice A es.length c] 32)) W) => show Below w.heap.size w W from hB0.trans (hW.mono hB0.size))
  have HR := hide (fun W (hW : Below w.heap.size w W) => hr.below hW)
  have HE := hide he
  have hn7 : n ≤ 70000 := by omega
  have hmk := fun W => run_make_heads n hn7 W n (fun _ => 0)
  have hmk2 := fun W => run_make_ss n hn7 W
  have HOm := hide (fun W => iOf_g m (by omega) W)
  have HO1 := hide (fun W => iOf_1 W)
  obtain ⟨Z, hZ⟩ : ∃ Z, w.heap.size = Z := ⟨_, rfl⟩
  rw [hZ] at hb0
  have hZl : Z < (w.alloc (.cells #[.int .i64 L, .int .i64 (n : Int), .slice A es.length c] 32)).heap.size := by rw [← hZ]; simp
  have HZ := hide hZ
  have hne0 : ((n : Int) == 0) = false := by rw [beq_eq_false_iff_ne]; omega
  have hgt : decide ((32 : Int) < (n : Int)) = false := decide_eq_false (by omega)
  clear hr hZ hB0 he hG hM
  go_enter Tryz.func40, Tryz.ntmps40
  go_wp2_with fail
  try rw [HZ.out]
  generalize w.alloc (.cells #[.int .i64 L, .int .i64 (n : Int), .slice A es.length c] 32) = W0 at hb0 hZl HW HBx ⊢
  have g0 : W0.cell? ⟨Z, 0, none⟩ = some (.int .i64 L) := by rw [cell_of_row _ _ 0 _ 32 (0, 0) hb0]; rfl
  have g1 : W0.cell? ⟨Z, 1, none⟩ = some (.int .i64 (n : Int)) := by rw [cell_of_row _ _ 1 _ 32 (0, 0) hb0]; rfl
  have g2 : W0.cell? ⟨Z, 2, none⟩ = some (.slice A es.length c) := by rw [cell_of_row _ _ 2 _ 32 (0, 0) hb0]; rfl
  clear hb0
  (with_reducible refine HW.out.mono ?_)
  rintro e w1 ⟨r, rfl, hr0, hB1⟩
  have hrn : (r != 0) = false := by rw [bne_eq_false_iff_eq]; exact beq_iff_eq.1 hr0
  have HB1 := hide (HBx.out _ hB1)
  have s0 := (hB1.cell (p := ⟨Z, 0, none⟩) hZl).trans g0
  have s1 := (hB1.cell (p := ⟨Z, 1, none⟩) hZl).trans g1
  have s2 := (hB1.cell (p := ⟨Z, 2, none⟩) hZl).trans g2
  have hZl1 := Nat.lt_of_lt_of_le hZl hB1.size
  clear g0 g1 g2 hB1 hZl hr0 HW HBx
  have HGr := hide (show ∀ W, Below w1.heap.size w1 W → W.cell? ⟨Z, 0, none⟩ = some (.int .i64 L) ∧ W.cell? ⟨Z, 1, none⟩ = some (.int .i64 (n : Int)) ∧ W.cell? ⟨Z, 2, none⟩ = some (.slice A es.length c) from fun W hW =>
    ⟨(hW.cell (p := ⟨Z, 0, none⟩) hZl1).trans s0, (hW.cell (p := ⟨Z, 1, none⟩) hZl1).trans s1, (hW.cell (p := ⟨Z, 2, none⟩) hZl1).trans s2⟩)
  go_wp2
  obtain ⟨G, hGG⟩ : ∃ G, w1.heap.size = G := ⟨_, rfl⟩
  have hW1 : Heads (w1.alloc (.cells (heads n n 0 (fun _ => 0)).toArray 39)) G n n 0 (fun _ => 0) := by rw [← hGG]; exact Heads.new_ _ _ _ _ _
  have hW2 : Below G w1 (w1.alloc (.cells (heads n n 0 (fun _ => 0)).toArray 39)) := by rw [← hGG]; exact (Below.refl _ w1).alloc (Nat.le_refl _) _
  rw [hGG] at HGr hZl1 ⊢
  have HGG := hide hGG
  clear hGG s0 s1 s2
  generalize w1.alloc (.cells (heads n n 0 (fun _ => 0)).toArray 39) = W1 at hW1 hW2 ⊢
  go_loopw [35] (fun iv wr => ∃ (i : Nat) (rs : Nat → Nat), iv = .int .i64 i ∧ i ≤ n ∧ Heads wr G n n i rs ∧ Hid (∀ j, j < i → SRow wr (rs j) (rowL n (fun k => if k = j then (m : Int) else 0)) ∧ G < rs j ∧ ∀ j', j' < j → rs j' < rs j) ∧ Below G w1 wr) (fun iv _ => n - (intOf iv).toNat)
  case atStart => exact ⟨0, _, rfl, Nat.zero_le _, hW1, hide fun j h => absurd h (by omega), hW2⟩
  case round =>
    obtain ⟨i, rs, rfl, hi, hH, hR, hB⟩ := hrel
    clear hW1 hW2
    obtain ⟨s0, s1, s2⟩ := HGr.out wr hB
    by_cases hlt : i < n
    · have hi0 : (0 : Int) ≤ (i : Int) := by omega
      have hi1 : (i : Int) < (n : Int) := by omega
      obtain ⟨R, hRR⟩ : ∃ R, wr.heap.size = R := ⟨_, rfl⟩
      have hGR : G < R := by rw [← hRR]; exact hH.lt
      obtain ⟨v0, hv0⟩ := hH.some_ hlt
      have hf0 := hH.free_ i
      have hPut := hH.put hlt R
      have hsz : (wr.setCell ⟨G, i, none⟩ (.slice (some ⟨R, 0, none⟩) n n)).heap.size = R := by rw [← hRR]; simp
      have hAl : Below R (wr.setCell ⟨G, i, none⟩ (.slice (some ⟨R, 0, none⟩) n n)) ((wr.setCell ⟨G, i, none⟩ (.slice (some ⟨R, 0, none⟩) n n)).alloc (.cells (scells (List.replicate n 0)).toArray 57)) := (Below.refl _ _).alloc (Nat.le_of_eq hsz.symm) _
      have hH2 := hPut.below hAl hGR
      have hRow : SRow ((wr.setCell ⟨G, i, none⟩ (.slice (some ⟨R, 0, none⟩) n n)).alloc (.cells (scells (List.replicate n 0)).toArray 57)) R (List.replicate n 0) := by
        have := SRow.new_ (wr.setCell ⟨G, i, none⟩ (.slice (some ⟨R, 0, none⟩) n n)) (List.replicate n 0)
        rw [hsz] at this
        exact this
      have hR2 := hide (show ∀ j, j < i → SRow ((wr.setCell ⟨G, i, none⟩ (.slice (some ⟨R, 0, none⟩) n n)).alloc (.cells (scells (List.replicate n 0)).toArray 57)) (rs j) (rowL n (fun k => if k = j then (m : Int) else 0)) ∧ G < rs j ∧ (∀ j', j' < j → rs j' < rs j) ∧ rs j < R from fun j hj => by
        obtain ⟨h1, h2, h4⟩ := hR.out j hj
        have h3 : rs j < R := by rw [← hRR]; exact h1.lt
        exact ⟨(h1.other1 (by omega) _ _).below hAl h3, h2, h4, h3⟩)
      have hB2 : Below G w1 ((wr.setCell ⟨G, i, none⟩ (.slice (some ⟨R, 0, none⟩) n n)).alloc (.cells (scells (List.replicate n 0)).toArray 57)) := (hB.setCell (p := ⟨G, i, none⟩) (Nat.le_refl _) _).trans (hAl.mono (by omega))
      clear hsz hAl hPut hR
      go_wp2_with fail
      generalize (wr.setCell ⟨G, i, none⟩ (.slice (some ⟨R, 0, none⟩) n n)).alloc (.cells (scells (List.replicate n 0)).toArray 57) = W2 at hH2 hRow hR2 hB2 ⊢
      have hc := hH2.cell (j := i) hlt (by omega)
      rw [if_pos rfl] at hc
      have HH := hide hH2
      have HRw := hide hRow
      have HB2 := hide hB2
      clear hH hB hv0 hf0 v0 hRR s0 s1 s2 hH2 hRow hB2
      have hcd : W2.drew.cell? ⟨G, i, none⟩ = some (.slice (some ⟨R, 0, none⟩) n n) := hc
      have hGw : G < W2.drew.heap.size := HH.out.lt
      have hGR1 : G + 1 ≤ R := hGR
      have lG : G < G + 1 := Nat.lt_succ_self _
      have hkl : i < (List.replicate n (0 : Int)).length := by rw [List.length_replicate]; exact hlt
      go_region_held3 (fun W => W.cell? ⟨G, i, none⟩ = some (.slice (some ⟨R, 0, none⟩) n n))
        (first | with_reducible exact hcd | with_reducible exact ((Below.pairG (Below.refl (G + 1) _) hGR1 _ _ _ _).cell (p := ⟨G, i, none⟩) lG).trans hcd)
        ((go_at_call 20; (with_reducible refine (HOm.out _).mono ?_); rintro e w3 ⟨rfl, hB3⟩; replace hcd := (hB3.cell (p := ⟨G, i, none⟩) hGw).trans hcd; have hq := SRow.belowS (w := W2.drew) HRw.out hB3; have y0 := hq.c0 hkl; have y1 := hq.c1 hkl; have z0 := hq.free_ (i * 2); have z1 := hq.free_ (i * 2 + 1)))
      all_goals (
        have hS := hq.set_ hkl (m : Int)
        have hH3 := (Heads.below (w := W2.drew) HH.out hB3 hGw).other (Nat.ne_of_lt hGR) (i * 2) (i * 2 + 1) (.bool (ng (m : Int))) (.string (mgI (m : Int)))
        have hB4 := Below.pairG (HB2.out.trans ((Below.refl G W2).drew.trans (hB3.mono (Nat.le_of_lt hGw)))) (Nat.le_of_lt hGR) (i * 2) (i * 2 + 1) (.bool (ng (m : Int))) (.string (mgI (m : Int)))
        have hR3 := hide (show ∀ j, j < i + 1 → SRow ((w3.setCell ⟨R, i * 2, none⟩ (.bool (ng (m : Int)))).setCell ⟨R, i * 2 + 1, none⟩ (.string (mgI (m : Int)))) (if j = i then R else rs j) (rowL n (fun k => if k = j then (m : Int) else 0)) ∧ G < (if j = i then R else rs j) ∧ ∀ j', j' < j → (if j' = i then R else rs j') < (if j = i then R else rs j) from fun j hj => by
          by_cases e : j = i
          · subst e
            rw [if_pos rfl]
            refine ⟨?_, hGR, fun j' hj' => ?_⟩
            · have e3 := rowL_set (n := n) (f := fun _ => 0) (k := j) (v := (m : Int)) (g := fun k => if k = j then (m : Int) else 0) (if_pos rfl) (fun a _ hne => by simp only [if_neg hne])
              rw [← e3, rowL_zero]
              exact hS
            · rw [if_neg (by omega)]
              exact (hR2.out j' hj').2.2.2
          · rw [if_neg e]
            obtain ⟨h1, h2, h4, h3⟩ := hR2.out j (by omega)
            refine ⟨(SRow.belowS (w := W2.drew) h1 hB3).other (Nat.ne_of_lt h3) _ _ _ _, h2, fun j' hj' => ?_⟩
            rw [if_neg (by omega)]
            exact h4 j' hj')
        have HH3 := hide hH3
        have HB4 := hide hB4
        clear hcd hq y0 y1 z0 z1 hR2 hH3 hB4 hS hB3
        go_wp2
        go_roundw
        case rel => exact ⟨i + 1, _, by go_num, hlt, HH3.out, hR3, HB4.out⟩
        case measure => simp [intOf]; omega)
    · obtain rfl : i = n := by omega
      have HH := hide hH
      have HBi := hide hB
      have hinj := hide (show ∀ a b, a < i → b < i → a ≠ b → rs a ≠ rs b from fun a b ha hb hab => by
        rcases Nat.lt_or_ge a b with h | h
        · have := (hR.out b hb).2.2 a h; omega
        · have := (hR.out a ha).2.2 b (by omega); omega)
      clear hH hB
      obtain ⟨W9, rfl⟩ : ∃ W9, W9 = wr := ⟨_, rfl⟩
      go_wp2
      go_loopw [56] (fun qv wr2 => ∃ q : Nat, qv = .int .i64 q ∧ q ≤ es.length ∧ Heads wr2 G i i i rs ∧ Hid (∀ j, j < i → SRow wr2 (rs j) (rowL i (aF m (es.take q) j)) ∧ G < rs j) ∧ Below G w1 wr2) (fun qv _ => es.length - (intOf qv).toNat)
      case atStart => exact ⟨0, rfl, Nat.zero_le _, HH.out, hide fun j hj => ⟨(hR.out j hj).1, (hR.out j hj).2.1⟩, HBi.out⟩
      case round =>
        obtain ⟨q, rfl, hq, hH, hR4, hB⟩ := hrel
        clear hR HH HBi s0 s1 s2
        obtain ⟨wr2, rfl⟩ : ∃ wr2, wr2 = wr := ⟨_, rfl⟩
        obtain ⟨t0, t1, t2⟩ := HGr.out wr2 hB
        have hBw : Below w.heap.size w wr2 := HB1.out.trans (hB.mono (by have := HB1.out.size; have := HGG.out; omega))
        by_cases hqe : q < es.length
        · obtain ⟨b, oe, rfl, hbl, hcell⟩ := HR.out wr2 hBw (by omega)
          obtain ⟨a0, a1, a2⟩ := hcell q hqe
          have hq0 : (0 : Int) ≤ (q : Int) := by omega
          have hq1 : (q : Int) < (es.length : Int) := by omega
          obtain ⟨e0, e1, e2, e3⟩ := HE.out es[q] (List.getElem_mem hqe)
          have HTk := hide (List.take_succ_eq_append_getElem hqe)
          have hxle := aFle m (es.take q)
          obtain ⟨e, hee⟩ : ∃ e, es[q] = e := ⟨_, rfl⟩
          rw [hee] at a0 a1 a2 e0 e1 e2 e3 HTk
          obtain ⟨f, hf⟩ : ∃ f : Nat, e.f = (f : Int) := ⟨e.f.toNat, by omega⟩
          obtain ⟨t, ht⟩ : ∃ t : Nat, e.t = (t : Int) := ⟨e.t.toNat, by omega⟩
          obtain ⟨l, hel⟩ : ∃ l, e.l = l := ⟨_, rfl⟩
          have hfn : f < i := by omega
          have htn : t < i := by omega
          have hft : e.f.toNat = f := by omega
          have htt : e.t.toNat = t := by omega
          rw [hf] at a0
          rw [hel] at a1
          rw [ht] at a2
          have hS := (hR4.out f hfn).1
          have hGf := (hR4.out f hfn).2
          have htl : t < (rowL i (aF m (es.take q) f)).length := by rw [rowL_len]; exact htn
          have p0 := hS.c0 htl
          have p1 := hS.c1 htl
          have hxv := hide (show (rowL i (aF m (es.take q) f)).getD t 0 = aF m (es.take q) f t from rowL_get htn)
          obtain ⟨x, hx⟩ : ∃ x, aF m (es.take q) f t = x := ⟨_, rfl⟩
          have hxb := hxle f t
          rw [List.length_take, Nat.min_eq_left hq] at hxb
          rw [hx] at hxv hxb
          rw [hxv.out] at p0 p1
          have HSub := hide (fun W => iSub_g x 1 W (Sml.of64 (by omega)) (Sml.of64 (by decide)))
          have HNx := hide (show aF m (es.take (q + 1)) = fun i' j' => if i' = f ∧ j' = t then x - 1 else aF m (es.take q) i' j' by
            rw [HTk.out, aFsnoc, hft, htt]
            funext i' j'
            split
            · rename_i h; obtain ⟨h1, h2⟩ := h; subst h1 h2; rw [hx]
            · rfl)
          have hhd := hH.cell (j := f) hfn hfn
          have hA : Below wr2.heap.size wr2 (wr2.alloc (.cells #[.int .i64 (f : Int), .int .i64 l, .int .i64 (t : Int)] 83)) := (Below.refl _ wr2).alloc (Nat.le_refl _) _
          have hx_ := heap_alloc_new wr2 (.cells #[.int .i64 (f : Int), .int .i64 l, .int .i64 (t : Int)] 83)
          have hHx := hH.belowS hA
          have hRx := hide (show ∀ j, j < i → SRow (wr2.alloc (.cells #[.int .i64 (f : Int), .int .i64 l, .int .i64 (t : Int)] 83)) (rs j) (rowL i (aF m (es.take q) j)) ∧ G < rs j from fun j hj => ⟨(hR4.out j hj).1.belowS hA, (hR4.out j hj).2⟩)
          have hBx := hB.trans (hA.mono (show G ≤ wr2.heap.size by have := hH.lt; omega))
          have q0 := (hA.cell (p := ⟨rs f, t * 2, none⟩) hS.lt).trans p0
          have q1 := (hA.cell (p := ⟨rs f, t * 2 + 1, none⟩) hS.lt).trans p1
          have hhx := (hA.cell (p := ⟨G, f, none⟩) hH.lt).trans hhd
          have hrl := hS.lt
          have hGl := hH.lt
          have hxs : (wr2.alloc (.cells #[.int .i64 (f : Int), .int .i64 l, .int .i64 (t : Int)] 83)).heap.size = wr2.heap.size + 1 := by simp
          have f0 : (0 : Int) ≤ (f : Int) := by omega
          have f1 : (f : Int) < (i : Int) := by omega
          have d0 : (0 : Int) ≤ (t : Int) := by omega
          have d1 : (t : Int) < (i : Int) := by omega
          clear hee hf ht hel hft htt hx hxb hxle p0 p1 e0 e1 e2 e3 hcell hB hS hA hH hR4 hhd hBw t0 t1 t2
          go_wp2_with fail
          obtain ⟨X, hXX⟩ : ∃ X, wr2.heap.size = X := ⟨_, rfl⟩
          rw [hXX] at hx_ hrl hGl hxs ⊢
          have x0 : (wr2.alloc (.cells #[.int .i64 (f : Int), .int .i64 l, .int .i64 (t : Int)] 83)).cell? ⟨X, 0, none⟩ = some (.int .i64 (f : Int)) := by rw [cell_of_row _ _ 0 _ 83 (0, 0) hx_]; rfl
          have x2 : (wr2.alloc (.cells #[.int .i64 (f : Int), .int .i64 l, .int .i64 (t : Int)] 83)).cell? ⟨X, 2, none⟩ = some (.int .i64 (t : Int)) := by rw [cell_of_row _ _ 2 _ 83 (0, 0) hx_]; rfl
          generalize wr2.alloc (.cells #[.int .i64 (f : Int), .int .i64 l, .int .i64 (t : Int)] 83) = Wx at hx_ hHx hRx hBx q0 q1 hhx hxs x0 x2 ⊢
          have hPx : SRow Wx (rs f) (rowL i (aF m (es.take q) f)) := (hRx.out f hfn).1
          have hSb := hide (show ∀ W1 : World, (∀ b, b ≠ rs f → b < Wx.heap.size → W1.heap[b]? = Wx.heap[b]?) → (fun W' : World => W'.cell? ⟨X, 0, none⟩ = some (.int .i64 (f : Int)) ∧ W'.cell? ⟨X, 2, none⟩ = some (.int .i64 (t : Int)) ∧ W'.cell? ⟨G, f, none⟩ = some (.slice (some ⟨rs f, 0, none⟩) i i)) W1 from fun W1 hW1 => ⟨(World.cell?_of_block (hW1 X (by omega) (by omega))).trans x0, (World.cell?_of_block (hW1 X (by omega) (by omega))).trans x2, (World.cell?_of_block (hW1 G (by omega) (by omega))).trans hhx⟩)
          have q0d : Wx.drew.cell? ⟨rs f, t * 2, none⟩ = some (.bool (ng x)) := q0
          have q1d : Wx.drew.cell? ⟨rs f, t * 2 + 1, none⟩ = some (.string (mgI x)) := q1
          have hHx := hide hHx
          have hBx := hide hBx
          have hNewB := hide (fun w3 (hB23 : Below Wx.drew.heap.size Wx.drew w3) => show (Heads ((w3.setCell ⟨rs f, t * 2, none⟩ (.bool (ng (x - 1)))).setCell ⟨rs f, t * 2 + 1, none⟩ (.string (mgI (x - 1)))) G i i i rs) ∧ (∀ j, j < i → SRow ((w3.setCell ⟨rs f, t * 2, none⟩ (.bool (ng (x - 1)))).setCell ⟨rs f, t * 2 + 1, none⟩ (.string (mgI (x - 1)))) (rs j) (rowL i (aF m (es.take (q + 1)) j)) ∧ G < rs j) ∧ Below G w1 ((w3.setCell ⟨rs f, t * 2, none⟩ (.bool (ng (x - 1)))).setCell ⟨rs f, t * 2 + 1, none⟩ (.string (mgI (x - 1)))) by
            refine ⟨(Heads.belowS (w := Wx.drew) hHx.out hB23).other (by omega) _ _ _ _, fun j hj => ⟨?_, (hRx.out j hj).2⟩, Below.pairG (hBx.out.trans ((Below.refl G Wx).drew.trans (hB23.mono (show G ≤ Wx.heap.size by omega)))) (by omega) _ _ _ _⟩
            by_cases e : j = f
            · subst e
              have hset := (SRow.belowS (w := Wx.drew) (hRx.out j hj).1 hB23).set_ htl (x - 1)
              rw [HNx.out]
              show SRow _ _ (rowL i (fun j' => if j = j ∧ j' = t then x - 1 else aF m (es.take q) j j'))
              have e3 := rowL_set (n := i) (f := aF m (es.take q) j) (k := t) (v := x - 1) (g := fun j' => if j = j ∧ j' = t then x - 1 else aF m (es.take q) j j') (if_pos ⟨rfl, rfl⟩) (fun a _ hne => by rw [if_neg (fun h => hne h.2)])
              rw [e3] at hset
              exact hset
            · have h1 := (SRow.belowS (w := Wx.drew) (hRx.out j hj).1 hB23).other (R := rs f) (hinj.out j f hj hfn e) (t * 2) (t * 2 + 1) (.bool (ng (x - 1))) (.string (mgI (x - 1)))
              rw [HNx.out]
              show SRow _ _ (rowL i (fun j' => if j = f ∧ j' = t then x - 1 else aF m (es.take q) j j'))
              have e3 : (fun j' => if j = f ∧ j' = t then x - 1 else aF m (es.take q) j j') = aF m (es.take q) j := by
                funext j'
                rw [if_neg (fun h => e h.1)]
              rw [e3]
              exact h1)
          clear hx_ x0 x2 hXX q0 q1 hhx hRx
          refine wp_region_noPanic ?_
          refine wp_region_held_drew (S := fun W' => W'.cell? ⟨X, 0, none⟩ = some (.int .i64 (f : Int)) ∧ W'.cell? ⟨X, 2, none⟩ = some (.int .i64 (t : Int)) ∧ W'.cell? ⟨G, f, none⟩ = some (.slice (some ⟨rs f, 0, none⟩) i i)) (by kernel_rfl) (hSb.out _ fun b _ hb => rfl) (fun hHeld => ?_)
          refine wpAnyH_take (i := 0) (oi := _) (v := ?v0) rfl (by kernel_rfl) (by kernel_rfl) (by kernel_rfl) (fun _ _ _ h => h) (Or.inl ⟨by rfl, ?hy0⟩) (by assumption) ?rest0
          case hy0 => (intro w hSw; (try dsimp only at hSw); go_simp; (try with_reducible rfl))
          (try simp only [List.getElem_toArray, List.getElem_cons_zero, Act.put, List.setIfInBounds_toArray, List.set_cons_zero, List.set_cons_succ])
          refine wpAnyH_take (i := 1) (oi := _) (v := ?v1) rfl (by kernel_rfl) (by kernel_rfl) (by kernel_rfl) (fun _ _ _ h => h) (Or.inl ⟨by rfl, ?hy1⟩) (by assumption) ?rest1
          case hy1 => (intro w hSw; (try dsimp only at hSw); go_simp; (try with_reducible rfl))
          (try simp only [List.getElem_toArray, List.getElem_cons_zero, List.getElem_cons_succ, Act.put, List.setIfInBounds_toArray, List.set_cons_zero, List.set_cons_succ])
          refine wpAnyH_take (i := 2) (oi := _) (v := ?v2) rfl (by kernel_rfl) (by kernel_rfl) (by kernel_rfl) (fun _ _ _ h => h) (Or.inl ⟨by rfl, ?hy2⟩) (by assumption) ?rest2
          case hy2 => (intro w hSw; (try dsimp only at hSw); go_simp; (try with_reducible rfl))
          (try simp only [List.getElem_toArray, List.getElem_cons_zero, List.getElem_cons_succ, Act.put, List.setIfInBounds_toArray, List.set_cons_zero, List.set_cons_succ])
          refine wpAnyH_take (i := 3) (oi := _) (v := ?v3) rfl (by kernel_rfl) (by kernel_rfl) (by kernel_rfl) (fun _ _ _ h => h) (Or.inl ⟨by rfl, ?hy3⟩) (by assumption) ?rest3
          case hy3 => (intro w hSw; (try dsimp only at hSw); go_simp; (try with_reducible rfl))
          (try simp only [List.getElem_toArray, List.getElem_cons_zero, List.getElem_cons_succ, Act.put, List.setIfInBounds_toArray, List.set_cons_zero, List.set_cons_succ])
          refine wpAnyH_take (i := 4) (oi := _) (v := ?v4) rfl (by kernel_rfl) (by kernel_rfl) (by kernel_rfl) (fun _ _ _ h => h) (Or.inl ⟨by rfl, ?hy4⟩) (by assumption) ?rest4
          case hy4 => (intro w hSw; (try dsimp only at hSw); go_simp; (try with_reducible rfl))
          (try simp only [List.getElem_toArray, List.getElem_cons_zero, List.getElem_cons_succ, Act.put, List.setIfInBounds_toArray, List.set_cons_zero, List.set_cons_succ])
          refine wpAnyH_take (i := 5) (oi := _) (v := ?v5) rfl (by kernel_rfl) (by kernel_rfl) (by kernel_rfl) (fun _ _ _ h => h) (Or.inl ⟨by rfl, ?hy5⟩) (by assumption) ?rest5
          case hy5 => (intro w hSw; (try dsimp only at hSw); go_simp; (try with_reducible rfl))
          (try simp only [List.getElem_toArray, List.getElem_cons_zero, List.getElem_cons_succ, Act.put, List.setIfInBounds_toArray, List.set_cons_zero, List.set_cons_succ])
          refine wpAnyH_take (i := 6) (oi := _) (v := ?v6) rfl (by kernel_rfl) (by kernel_rfl) (by kernel_rfl) (fun _ _ _ h => h) (Or.inl ⟨by rfl, ?hy6⟩) (by assumption) ?rest6
          case hy6 => (intro w hSw; (try dsimp only at hSw); go_simp; (try with_reducible rfl))
          (try simp only [List.getElem_toArray, List.getElem_cons_zero, List.getElem_cons_succ, Act.put, List.setIfInBounds_toArray, List.set_cons_zero, List.set_cons_succ])
          refine wpAnyH_take (i := 7) (oi := _) (v := ?v7) rfl (by kernel_rfl) (by kernel_rfl) (by kernel_rfl) (fun _ _ _ h => h) (Or.inl ⟨by rfl, ?hy7⟩) (by assumption) ?rest7
          case hy7 => (intro w hSw; (try dsimp only at hSw); go_simp; (try with_reducible rfl))
          (try simp only [List.getElem_toArray, List.getElem_cons_zero, List.getElem_cons_succ, Act.put, List.setIfInBounds_toArray, List.set_cons_zero, List.set_cons_succ])
          refine wpAnyH_take (i := 8) (oi := _) (v := ?v8) rfl (by kernel_rfl) (by kernel_rfl) (by kernel_rfl) (fun _ _ _ h => h) (Or.inl ⟨by rfl, ?hy8⟩) (by assumption) ?rest8
          case hy8 => (intro w hSw; (try dsimp only at hSw); go_simp; (try with_reducible rfl))
          (try simp only [List.getElem_toArray, List.getElem_cons_zero, List.getElem_cons_succ, Act.put, List.setIfInBounds_toArray, List.set_cons_zero, List.set_cons_succ])
          refine wpAnyH_take (i := 9) (oi := _) (v := ?v9) rfl (by kernel_rfl) (by kernel_rfl) (by kernel_rfl) (fun _ _ _ h => h) (Or.inl ⟨by rfl, ?hy9⟩) (by assumption) ?rest9
          case hy9 => (intro w hSw; (try dsimp only at hSw); go_simp; (try with_reducible rfl))
          (try simp only [List.getElem_toArray, List.getElem_cons_zero, List.getElem_cons_succ, Act.put, List.setIfInBounds_toArray, List.set_cons_zero, List.set_cons_succ])
          refine wpAnyH_take (i := 10) (oi := _) (v := ?v10) rfl (by kernel_rfl) (by kernel_rfl) (by kernel_rfl) (fun _ _ _ h => h) (Or.inl ⟨by rfl, ?hy10⟩) (by assumption) ?rest10
          case hy10 => (intro w hSw; (try dsimp only at hSw); go_simp; (try with_reducible rfl))
          (try simp only [List.getElem_toArray, List.getElem_cons_zero, List.getElem_cons_succ, Act.put, List.setIfInBounds_toArray, List.set_cons_zero, List.set_cons_succ])
          refine wpAnyH_take (i := 11) (oi := _) (v := ?v11) rfl (by kernel_rfl) (by kernel_rfl) (by kernel_rfl) (fun _ _ _ h => h) (Or.inl ⟨by rfl, ?hy11⟩) (by assumption) ?rest11
          case hy11 => (intro w hSw; (try dsimp only at hSw); go_simp; (try with_reducible rfl))
          (try simp only [List.getElem_toArray, List.getElem_cons_zero, List.getElem_cons_succ, Act.put, List.setIfInBounds_toArray, List.set_cons_zero, List.set_cons_succ])
          refine wpAnyH_take (i := 12) (oi := _) (v := ?v12) rfl (by kernel_rfl) (by kernel_rfl) (by kernel_rfl) (fun _ _ _ h => h) (Or.inl ⟨by rfl, ?hy12⟩) (by assumption) ?rest12
          case hy12 => (intro w hSw; (try dsimp only at hSw); go_simp; (try with_reducible rfl))
          (try simp only [List.getElem_toArray, List.getElem_cons_zero, List.getElem_cons_succ, Act.put, List.setIfInBounds_toArray, List.set_cons_zero, List.set_cons_succ])
          refine wpAnyH_take (i := 13) (oi := _) (v := ?v13) rfl (by kernel_rfl) (by kernel_rfl) (by kernel_rfl) (fun _ _ _ h => h) (Or.inl ⟨by rfl, ?hy13⟩) (by assumption) ?rest13
          case hy13 => (intro w hSw; (try dsimp only at hSw); go_simp; (try with_reducible rfl))
          (try simp only [List.getElem_toArray, List.getElem_cons_zero, List.getElem_cons_succ, Act.put, List.setIfInBounds_toArray, List.set_cons_zero, List.set_cons_succ])
          refine wpAnyH_take (i := 14) (oi := _) (v := ?v14) rfl (by kernel_rfl) (by kernel_rfl) (by kernel_rfl) (fun _ _ _ h => h) (Or.inl ⟨by rfl, ?hy14⟩) (by assumption) ?rest14
          case hy14 => (intro w hSw; (try dsimp only at hSw); go_simp; (try with_reducible rfl))
          (try simp only [List.getElem_toArray, List.getElem_cons_zero, List.getElem_cons_succ, Act.put, List.setIfInBounds_toArray, List.set_cons_zero, List.set_cons_succ])
          refine wpAnyH_ready (rs := [15, 16]) (by kernel_rfl) (by simp) ?_
          refine AllReadyH.cons (o := _) rfl (fun K hK => ?_) (AllReadyH.cons (o := _) rfl (fun K hK => ?_) AllReadyH.nil)
          · go_simp
            refine hK.out _ _ ?_ (fun hHeld => ?_)
            · exact hHeld
            clear hK K
            (try simp only [List.getElem_toArray, List.getElem_cons_zero, List.getElem_cons_succ, Act.put, List.setIfInBounds_toArray, List.set_cons_zero, List.set_cons_succ])
            refine wpAnyH_ready (rs := [16]) (by kernel_rfl) (by simp) ?_
            refine AllReadyH.cons (o := _) rfl (fun K hK => ?_) AllReadyH.nil
            go_simp
            (with_reducible refine (HO1.out _).mono ?_)
            rintro en w2 ⟨rfl, hB2⟩
            have hS2 := hide (hSb.out w2 fun b _ hb => hB2.block b hb)
            have hP2 := SRow.belowS (w := Wx.drew) hPx hB2
            have k0 := hP2.c0 htl
            have k1 := hP2.c1 htl
            rw [hxv.out] at k0 k1
            (try go_wp2_with fail)
            refine hK.out _ _ ?_ (fun hHeld => ?_)
            · exact hS2.out
            clear hK K
            (try simp only [List.getElem_toArray, List.getElem_cons_zero, List.getElem_cons_succ, Act.put, List.setIfInBounds_toArray, List.set_cons_zero, List.set_cons_succ])
            refine wpAnyH_ready (rs := [17]) (by kernel_rfl) (by simp) ?_
            refine AllReadyH.cons (o := _) rfl (fun K hK => ?_) AllReadyH.nil
            go_simp
            (with_reducible refine (HSub.out _).mono ?_)
            rintro en w3 ⟨rfl, hB3⟩
            have hB23 := hB2.trans (hB3.mono hB2.size)
            have hS3 := hide (hSb.out w3 fun b _ hb => hB23.block b hb)
            have hP3 := SRow.belowS (w := Wx.drew) hPx hB23
            have l0 := hP3.c0 htl
            have l1 := hP3.c1 htl
            have m0 := hP3.free_ (t * 2)
            have m1 := hP3.free_ (t * 2 + 1)
            (try go_wp2_with fail)
            refine hK.out _ _ ?_ (fun hHeld => ?_)
            · exact hS3.out
            clear hK K
            (try simp only [List.getElem_toArray, List.getElem_cons_zero, List.getElem_cons_succ, Act.put, List.setIfInBounds_toArray, List.set_cons_zero, List.set_cons_succ])
            refine wpAnyH_take (i := 18) (oi := _) (v := ?v18) rfl (by kernel_rfl) (by kernel_rfl) (by kernel_rfl) (fun _ _ _ h => h) (Or.inl ⟨by rfl, ?hy18⟩) (by assumption) ?rest18
            case hy18 => (intro w hSw; (try dsimp only at hSw); go_simp; (try with_reducible rfl))
            (try simp only [List.getElem_toArray, List.getElem_cons_zero, List.getElem_cons_succ, Act.put, List.setIfInBounds_toArray, List.set_cons_zero, List.set_cons_succ])
            refine wpAnyH_ready (rs := [19]) (by kernel_rfl) (by simp) ?_
            refine AllReadyH.cons (o := _) rfl (fun K hK => ?_) AllReadyH.nil
            go_simp
            refine hK.out _ _ ?_ (fun hHeld => ?_)
            · exact hSb.out _ fun b hne hb => (Below.heap_setCell _ ⟨rs f, t * 2 + 1, none⟩ _ b hne).trans ((Below.heap_setCell _ ⟨rs f, t * 2, none⟩ _ b hne).trans (hB23.block b hb))
            clear hK K
            (try simp only [List.getElem_toArray, List.getElem_cons_zero, List.getElem_cons_succ, Act.put, List.setIfInBounds_toArray, List.set_cons_zero, List.set_cons_succ])
            refine wpAnyH_done (by kernel_rfl) ?_ _
            refine NoPanic.normal ?_
            have hnew := hide (hNewB.out w3 hB23)
            clear hB23 hP3 l0 l1 m0 m1
            go_wp2
            go_roundw
            case rel => exact ⟨q + 1, by go_num, hqe, hnew.out.1, hide hnew.out.2.1, hnew.out.2.2⟩
            case measure => simp [intOf]; omega
          · go_simp
            (with_reducible refine (HO1.out _).mono ?_)
            rintro en w2 ⟨rfl, hB2⟩
            have hS2 := hide (hSb.out w2 fun b _ hb => hB2.block b hb)
            have hP2 := SRow.belowS (w := Wx.drew) hPx hB2
            have k0 := hP2.c0 htl
            have k1 := hP2.c1 htl
            rw [hxv.out] at k0 k1
            (try go_wp2_with fail)
            refine hK.out _ _ ?_ (fun hHeld => ?_)
            · exact hS2.out
            clear hK K
            (try simp only [List.getElem_toArray, List.getElem_cons_zero, List.getElem_cons_succ, Act.put, List.setIfInBounds_toArray, List.set_cons_zero, List.set_cons_succ])
            refine wpAnyH_ready (rs := [15]) (by kernel_rfl) (by simp) ?_
            refine AllReadyH.cons (o := _) rfl (fun K hK => ?_) AllReadyH.nil
            go_simp
            refine hK.out _ _ ?_ (fun hHeld => ?_)
            · exact hS2.out
            clear hK K
            (try simp only [List.getElem_toArray, List.getElem_cons_zero, List.getElem_cons_succ, Act.put, List.setIfInBounds_toArray, List.set_cons_zero, List.set_cons_succ])
            refine wpAnyH_ready (rs := [17]) (by kernel_rfl) (by simp) ?_
            refine AllReadyH.cons (o := _) rfl (fun K hK => ?_) AllReadyH.nil
            go_simp
            (with_reducible refine (HSub.out _).mono ?_)
            rintro en w3 ⟨rfl, hB3⟩
            have hB23 := hB2.trans (hB3.mono hB2.size)
            have hS3 := hide (hSb.out w3 fun b _ hb => hB23.block b hb)
            have hP3 := SRow.belowS (w := Wx.drew) hPx hB23
            have l0 := hP3.c0 htl
            have l1 := hP3.c1 htl
            have m0 := hP3.free_ (t * 2)
            have m1 := hP3.free_ (t * 2 + 1)
            (try go_wp2_with fail)
            refine hK.out _ _ ?_ (fun hHeld => ?_)
            · exact hS3.out
            clear hK K
            (try simp only [List.getElem_toArray, List.getElem_cons_zero, List.getElem_cons_succ, Act.put, List.setIfInBounds_toArray, List.set_cons_zero, List.set_cons_succ])
            refine wpAnyH_take (i := 18) (oi := _) (v := ?v18z) rfl (by kernel_rfl) (by kernel_rfl) (by kernel_rfl) (fun _ _ _ h => h) (Or.inl ⟨by rfl, ?hy18z⟩) (by assumption) ?rest18z
            case hy18z => (intro w hSw; (try dsimp only at hSw); go_simp; (try with_reducible rfl))
            (try simp only [List.getElem_toArray, List.getElem_cons_zero, List.getElem_cons_succ, Act.put, List.setIfInBounds_toArray, List.set_cons_zero, List.set_cons_succ])
            refine wpAnyH_ready (rs := [19]) (by kernel_rfl) (by simp) ?_
            refine AllReadyH.cons (o := _) rfl (fun K hK => ?_) AllReadyH.nil
            go_simp
            refine hK.out _ _ ?_ (fun hHeld => ?_)
            · exact hSb.out _ fun b hne hb => (Below.heap_setCell _ ⟨rs f, t * 2 + 1, none⟩ _ b hne).trans ((Below.heap_setCell _ ⟨rs f, t * 2, none⟩ _ b hne).trans (hB23.block b hb))
            clear hK K
            (try simp only [List.getElem_toArray, List.getElem_cons_zero, List.getElem_cons_succ, Act.put, List.setIfInBounds_toArray, List.set_cons_zero, List.set_cons_succ])
            refine wpAnyH_done (by kernel_rfl) ?_ _
            refine NoPanic.normal ?_
            have hnew := hide (hNewB.out w3 hB23)
            clear hB23 hP3 l0 l1 m0 m1
            go_wp2
            go_roundw
            case rel => exact ⟨q + 1, by go_num, hqe, hnew.out.1, hide hnew.out.2.1, hnew.out.2.2⟩
            case measure => simp [intOf]; omega
        · obtain rfl : q = es.length := by omega
          rw [List.take_length] at hR4
          have hMat : Mat wr2 G i i (aF m es) := ⟨rs, hH, fun a ha => (hR4.out a ha).1⟩
          have hab : ∀ a b, a < i → b < i → (aF m es a b).natAbs ≤ 65536 := fun a b _ _ => by have := aFle m es a b; omega
          have HAdj := hide (mxAdj_any G i (aF m es) wr2 hn0 hn hab hMat)
          have hoU : ∀ s k, s < i → k ≤ i → (rsum (adjF i (aF m es)) s k).natAbs ≤ 32 * 4294967296 ^ 32 := fun s k hs hk => by
            have h1 : ∀ j, j < k → (adjF i (aF m es) s j).natAbs ≤ 4294967296 ^ 32 := fun j hj => by
              have h2 : (chM i (aF m es) (i - 1) s j).natAbs ≤ 4294967296 ^ (i - 1) := chM_le (by omega) hab (i - 1) s j hs (by omega)
              have h3 : (4294967296 : Nat) ^ (i - 1) ≤ 4294967296 ^ 32 := Nat.pow_le_pow_right (by decide) (by omega)
              unfold adjF
              split
              · rw [Int.natAbs_neg]; exact Nat.le_trans h2 h3
              · exact Nat.le_trans h2 h3
            have h4 := rsumle (f := adjF i (aF m es)) (s := s) (U := 4294967296 ^ 32) k h1
            exact Nat.le_trans h4 (Nat.mul_le_mul_right _ (by omega))
          have hae : ∀ s j, s < i → j < i → (adjF i (aF m es) s j).natAbs ≤ 4294967296 ^ 32 := fun s j hs hj => by
            have h2 : (chM i (aF m es) (i - 1) s j).natAbs ≤ 4294967296 ^ (i - 1) := chM_le (by omega) hab (i - 1) s j hs hj
            have h3 : (4294967296 : Nat) ^ (i - 1) ≤ 4294967296 ^ 32 := Nat.pow_le_pow_right (by decide) (by omega)
            unfold adjF
            split
            · rw [Int.natAbs_neg]; exact Nat.le_trans h2 h3
            · exact Nat.le_trans h2 h3
          have HOU := hide hoU
          have HAE := hide hae
          have HBq := hide hB
          have hGl2 := hH.lt
          have hGs : Z < wr2.heap.size := by have := hB.size; omega
          clear hMat hab hH hR4 hB hoU hae t0 t1 t2
          go_wp2_with fail
          (with_reducible refine HAdj.out.mono ?_)
          rintro e w4 ⟨Gb, rfl, hMb, hB4⟩
          obtain ⟨ad, had⟩ : ∃ ad, adjF i (aF m es) = ad := ⟨_, rfl⟩
          rw [had] at hMb HOU HAE
          have HAD := hide had
          clear had
          have hB14 : Below G w1 w4 := HBq.out.trans (hB4.mono (by omega))
          obtain ⟨s0, s1, s2⟩ := HGr.out w4 hB14
          have hG4 : G < w4.heap.size := Nat.lt_of_lt_of_le (hGl2 : G < wr2.heap.size) hB4.size
          have HB14 := hide hB14
          obtain ⟨rb, hHb, hRb⟩ := hMb
          have hGbl := hHb.lt
          have hRbl := hide (fun a (ha : a < i) => (hRb a ha).lt)
          have HHb := hide hHb
          have HRb := hide hRb
          clear hHb hRb hB4 hB14
          go_wp2
          obtain ⟨O, hOO⟩ : ∃ O, w4.heap.size = O := ⟨_, rfl⟩
          have hRow := SRow.new_ w4 (List.replicate i 0)
          rw [← rowL_zero] at hRow
          have hA5 : Below O w4 (w4.alloc (.cells (scells (List.replicate i 0)).toArray 57)) := by rw [← hOO]; exact (Below.refl _ w4).alloc (Nat.le_refl _) _
          rw [rowL_zero, hOO] at hRow
          rw [hOO] at hGbl hRbl hG4 ⊢
          have HO := hide hOO
          clear hOO s0 s1 s2
          generalize w4.alloc (.cells (scells (List.replicate i 0)).toArray 57) = W5 at hRow hA5 ⊢
          go_loopw [93] (fun sv w5 => ∃ s : Nat, sv = .int .i64 s ∧ s ≤ i ∧ SRow w5 O (rowL i (fun k => if k < s then rsum ad k i else 0)) ∧ Below O w4 w5) (fun sv _ => i - (intOf sv).toNat)
          case atStart => exact ⟨0, rfl, Nat.zero_le _, by rw [show (fun k => if k < 0 then rsum ad k i else 0) = fun _ => 0 from by funext a; simp, rowL_zero]; exact hRow, hA5⟩
          case round =>
            obtain ⟨s, rfl, hs, hS, hB⟩ := hrel
            clear hRow hA5
            obtain ⟨w5, rfl⟩ : ∃ w5, w5 = wr := ⟨_, rfl⟩
            by_cases hlt : s < i
            · have hs0 : (0 : Int) ≤ (s : Int) := by omega
              have hs1 : (s : Int) < (i : Int) := by omega
              have hhd := (HHb.out.below hB hGbl).cell (j := s) hlt hlt
              have HS := hide hS
              have HB := hide hB
              clear hS hB
              go_wp2
              go_loopw [100] (fun kv w6 => ∃ k : Nat, kv = .int .i64 k ∧ k ≤ i ∧ SRow w6 O (rowL i (fun a => if a < s then rsum ad a i else if a = s then rsum ad s k else 0)) ∧ Below O w4 w6) (fun kv _ => i - (intOf kv).toNat)
              case atStart => exact ⟨0, rfl, Nat.zero_le _, by
                rw [show (fun a => if a < s then rsum ad a i else if a = s then rsum ad s 0 else 0) = (fun a => if a < s then rsum ad a i else 0) from by funext a; simp [rsum]]
                exact HS.out, HB.out⟩
              case round =>
                obtain ⟨k, rfl, hk, hS, hB⟩ := hrel
                clear HS HB hhd
                obtain ⟨w6, rfl⟩ : ∃ w6, w6 = wr := ⟨_, rfl⟩
                by_cases hkl : k < i
                · have k0 : (0 : Int) ≤ (k : Int) := by omega
                  have k1 : (k : Int) < (i : Int) := by omega
                  have hRr := (HRb.out s hlt).below hB (hRbl.out s hlt)
                  have v0 := hRr.c0 (k := k) (by rw [rowL_len]; exact hkl)
                  have v1 := hRr.c1 (k := k) (by rw [rowL_len]; exact hkl)
                  rw [rowL_get hkl] at v0 v1
                  have hsl : s < (rowL i (fun a => if a < s then rsum ad a i else if a = s then rsum ad s k else 0)).length := by rw [rowL_len]; exact hlt
                  have p0 := hS.c0 hsl
                  have p1 := hS.c1 hsl
                  have hxv := hide (show (rowL i (fun a => if a < s then rsum ad a i else if a = s then rsum ad s k else 0)).getD s 0 = rsum ad s k by rw [rowL_get hlt, if_neg (Nat.lt_irrefl s), if_pos rfl])
                  have hxb := HOU.out s k hlt hk
                  have hyb := HAE.out s k hlt hkl
                  have HNx := hide (show rsum ad s (k + 1) = rsum ad s k + ad s k from rfl)
                  obtain ⟨x, hx⟩ : ∃ x, rsum ad s k = x := ⟨_, rfl⟩
                  obtain ⟨y, hy⟩ : ∃ y, ad s k = y := ⟨_, rfl⟩
                  rw [hxv.out, hx] at p0 p1
                  have hxv := hide (hxv.out.trans hx)
                  rw [hx] at hxb HNx
                  rw [hy] at v0 v1 hyb HNx
                  have HAdd := hide (fun W => iAdd_g x y W (Sml.le ⟨33, by decide, by decide⟩ hxb) (Sml.le ⟨33, by decide, by decide⟩ hyb))
                  have hA : Below w6.heap.size w6 (w6.alloc (.cells #[.bool (ng y), .string (mgI y)] 57)) := (Below.refl _ w6).alloc (Nat.le_refl _) _
                  have hx_ := heap_alloc_new w6 (.cells #[.bool (ng y), .string (mgI y)] 57)
                  have hPx0 := hS.belowS hA
                  have hBx0 := hB.trans (hA.mono (show O ≤ w6.heap.size by have := hS.lt; omega))
                  have q0 := (hA.cell (p := ⟨O, s * 2, none⟩) hS.lt).trans p0
                  have q1 := (hA.cell (p := ⟨O, s * 2 + 1, none⟩) hS.lt).trans p1
                  have hPl := hS.lt
                  have hxs : (w6.alloc (.cells #[.bool (ng y), .string (mgI y)] 57)).heap.size = w6.heap.size + 1 := by simp
                  clear hx hy hxb hyb p0 p1 hB hS hA hRr
                  go_wp2_with fail
                  obtain ⟨X, hXX⟩ : ∃ X, w6.heap.size = X := ⟨_, rfl⟩
                  rw [hXX] at hx_ hPl hxs ⊢
                  have x0 : (w6.alloc (.cells #[.bool (ng y), .string (mgI y)] 57)).cell? ⟨X, 0, none⟩ = some (.bool (ng y)) := by rw [cell_of_row _ _ 0 _ 57 (0, 0) hx_]; rfl
                  have x1 : (w6.alloc (.cells #[.bool (ng y), .string (mgI y)] 57)).cell? ⟨X, 1, none⟩ = some (.string (mgI y)) := by rw [cell_of_row _ _ 1 _ 57 (0, 0) hx_]; rfl
                  generalize w6.alloc (.cells #[.bool (ng y), .string (mgI y)] 57) = Wx at hx_ hPx0 hBx0 q0 q1 hxs x0 x1 ⊢
                  have hPx : SRow Wx O (rowL i (fun a => if a < s then rsum ad a i else if a = s then rsum ad s k else 0)) := hPx0
                  have hBx := hide hBx0
                  have hSb := hide (show ∀ W1 : World, (∀ b, b ≠ O → b < Wx.heap.size → W1.heap[b]? = Wx.heap[b]?) → (fun W' : World => W'.cell? ⟨X, 0, none⟩ = some (.bool (ng y)) ∧ W'.cell? ⟨X, 1, none⟩ = some (.string (mgI y))) W1 from fun W1 hW1 => ⟨(World.cell?_of_block (hW1 X (by omega) (by omega))).trans x0, (World.cell?_of_block (hW1 X (by omega) (by omega))).trans x1⟩)
                  have q0d : Wx.drew.cell? ⟨O, s * 2, none⟩ = some (.bool (ng x)) := q0
                  have q1d : Wx.drew.cell? ⟨O, s * 2 + 1, none⟩ = some (.string (mgI x)) := q1
                  clear hx_ hPx0 hBx0 v0 v1 x0 x1 hXX q0 q1
                  refine wp_region_noPanic ?_
                  refine wp_region_held_drew (S := fun W' => W'.cell? ⟨X, 0, none⟩ = some (.bool (ng y)) ∧ W'.cell? ⟨X, 1, none⟩ = some (.string (mgI y))) (by kernel_rfl) (hSb.out _ fun b _ hb => rfl) (fun hHeld => ?_)
                  refine wpAnyH_take (i := 0) (oi := _) (v := ?v0q) rfl (by kernel_rfl) (by kernel_rfl) (by kernel_rfl) (fun _ _ _ h => h) (Or.inl ⟨by rfl, ?hy0q⟩) (by assumption) ?rest0q
                  case hy0q => (intro w hSw; (try dsimp only at hSw); go_simp; (try with_reducible rfl))
                  (try simp only [List.getElem_toArray, List.getElem_cons_zero, Act.put, List.setIfInBounds_toArray, List.set_cons_zero, List.set_cons_succ])
                  refine wpAnyH_take (i := 1) (oi := _) (v := ?v1q) rfl (by kernel_rfl) (by kernel_rfl) (by kernel_rfl) (fun _ _ _ h => h) (Or.inl ⟨by rfl, ?hy1q⟩) (by assumption) ?rest1q
                  case hy1q => (intro w hSw; (try dsimp only at hSw); go_simp; (try with_reducible rfl))
                  (try simp only [List.getElem_toArray, List.getElem_cons_zero, List.getElem_cons_succ, Act.put, List.setIfInBounds_toArray, List.set_cons_zero, List.set_cons_succ])
                  refine wpAnyH_take (i := 2) (oi := _) (v := ?v2q) rfl (by kernel_rfl) (by kernel_rfl) (by kernel_rfl) (fun _ _ _ h => h) (Or.inl ⟨by rfl, ?hy2q⟩) (by assumption) ?rest2q
                  case hy2q => (intro w hSw; (try dsimp only at hSw); go_simp; (try with_reducible rfl))
                  (try simp only [List.getElem_toArray, List.getElem_cons_zero, List.getElem_cons_succ, Act.put, List.setIfInBounds_toArray, List.set_cons_zero, List.set_cons_succ])
                  refine wpAnyH_take (i := 3) (oi := _) (v := ?v3q) rfl (by kernel_rfl) (by kernel_rfl) (by kernel_rfl) (fun _ _ _ h => h) (Or.inl ⟨by rfl, ?hy3q⟩) (by assumption) ?rest3q
                  case hy3q => (intro w hSw; (try dsimp only at hSw); go_simp; (try with_reducible rfl))
                  (try simp only [List.getElem_toArray, List.getElem_cons_zero, List.getElem_cons_succ, Act.put, List.setIfInBounds_toArray, List.set_cons_zero, List.set_cons_succ])
                  refine wpAnyH_take (i := 4) (oi := _) (v := ?v4q) rfl (by kernel_rfl) (by kernel_rfl) (by kernel_rfl) (fun _ _ _ h => h) (Or.inl ⟨by rfl, ?hy4q⟩) (by assumption) ?rest4q
                  case hy4q => (intro w hSw; (try dsimp only at hSw); go_simp; (try with_reducible rfl))
                  (try simp only [List.getElem_toArray, List.getElem_cons_zero, List.getElem_cons_succ, Act.put, List.setIfInBounds_toArray, List.set_cons_zero, List.set_cons_succ])
                  refine wpAnyH_take (i := 6) (oi := _) (v := ?v6q) rfl (by kernel_rfl) (by kernel_rfl) (by kernel_rfl) (fun _ _ _ h => h) (Or.inl ⟨by rfl, ?hy6q⟩) (by assumption) ?rest6q
                  case hy6q => (intro w hSw; (try dsimp only at hSw); go_simp; (try with_reducible rfl))
                  (try simp only [List.getElem_toArray, List.getElem_cons_zero, List.getElem_cons_succ, Act.put, List.setIfInBounds_toArray, List.set_cons_zero, List.set_cons_succ])
                  refine wpAnyH_ready (rs := [5]) (by kernel_rfl) (by simp) ?_
                  refine AllReadyH.cons (o := _) rfl (fun K hK => ?_) AllReadyH.nil
                  go_simp
                  refine hK.out _ _ ?_ (fun hHeld => ?_)
                  · exact hHeld
                  clear hK K
                  (try simp only [List.getElem_toArray, List.getElem_cons_zero, List.getElem_cons_succ, Act.put, List.setIfInBounds_toArray, List.set_cons_zero, List.set_cons_succ])
                  refine wpAnyH_ready (rs := [7]) (by kernel_rfl) (by simp) ?_
                  refine AllReadyH.cons (o := _) rfl (fun K hK => ?_) AllReadyH.nil
                  go_simp
                  (with_reducible refine (HAdd.out _).mono ?_)
                  rintro en w2 ⟨rfl, hB2⟩
                  have hS2 := hide (hSb.out w2 fun b _ hb => hB2.block b hb)
                  have hP2 := SRow.belowS (w := Wx.drew) hPx hB2
                  have j0 := hP2.c0 hsl
                  have j1 := hP2.c1 hsl
                  have m0 := hP2.free_ (s * 2)
                  have m1 := hP2.free_ (s * 2 + 1)
                  (try go_wp2_with fail)
                  refine hK.out _ _ ?_ (fun hHeld => ?_)
                  · exact hS2.out
                  clear hK K
                  (try simp only [List.getElem_toArray, List.getElem_cons_zero, List.getElem_cons_succ, Act.put, List.setIfInBounds_toArray, List.set_cons_zero, List.set_cons_succ])
                  refine wpAnyH_take (i := 8) (oi := _) (v := ?v8q) rfl (by kernel_rfl) (by kernel_rfl) (by kernel_rfl) (fun _ _ _ h => h) (Or.inl ⟨by rfl, ?hy8q⟩) (by assumption) ?rest8q
                  case hy8q => (intro w hSw; (try dsimp only at hSw); go_simp; (try with_reducible rfl))
                  (try simp only [List.getElem_toArray, List.getElem_cons_zero, List.getElem_cons_succ, Act.put, List.setIfInBounds_toArray, List.set_cons_zero, List.set_cons_succ])
                  refine wpAnyH_ready (rs := [9]) (by kernel_rfl) (by simp) ?_
                  refine AllReadyH.cons (o := _) rfl (fun K hK => ?_) AllReadyH.nil
                  go_simp
                  refine hK.out _ _ ?_ (fun hHeld => ?_)
                  · exact hSb.out _ fun b hne hb => (Below.heap_setCell _ ⟨O, s * 2 + 1, none⟩ _ b hne).trans ((Below.heap_setCell _ ⟨O, s * 2, none⟩ _ b hne).trans (hB2.block b hb))
                  clear hK K
                  (try simp only [List.getElem_toArray, List.getElem_cons_zero, List.getElem_cons_succ, Act.put, List.setIfInBounds_toArray, List.set_cons_zero, List.set_cons_succ])
                  refine wpAnyH_done (by kernel_rfl) ?_ _
                  refine NoPanic.normal ?_
                  have hS9 := hP2.set_ hsl (x + y)
                  have hB9 : Below O w4 ((w2.setCell ⟨O, s * 2, none⟩ (.bool (ng (x + y)))).setCell ⟨O, s * 2 + 1, none⟩ (.string (mgI (x + y)))) := Below.pairG (hBx.out.trans ((Below.refl O Wx).drew.trans (hB2.mono (show O ≤ Wx.heap.size by omega)))) (Nat.le_refl _) _ _ _ _
                  have HS9 := hide (show SRow ((w2.setCell ⟨O, s * 2, none⟩ (.bool (ng (x + y)))).setCell ⟨O, s * 2 + 1, none⟩ (.string (mgI (x + y)))) O (rowL i (fun a => if a < s then rsum ad a i else if a = s then rsum ad s (k + 1) else 0)) by
                    rw [HNx.out, ← rowL_set (n := i) (f := fun a => if a < s then rsum ad a i else if a = s then rsum ad s k else 0) (k := s) (v := x + y) (g := fun a => if a < s then rsum ad a i else if a = s then x + y else 0) (by rw [if_neg (Nat.lt_irrefl s), if_pos rfl]) (fun j _ hne => by simp only [if_neg hne])]
                    exact hS9)
                  have HB9 := hide hB9
                  clear hS9 hB9 hB2 hP2 j0 j1 m0 m1 q0d q1d hSb hPx hBx
                  go_wp2
                  go_roundw
                  case rel => exact ⟨k + 1, by go_num, hkl, HS9.out, HB9.out⟩
                  case measure => simp [intOf]; omega
                · obtain rfl : k = i := by omega
                  have HS9 := hide (show SRow w6 O (rowL k (fun a => if a < s + 1 then rsum ad a k else 0)) by
                    rw [show (fun a => if a < s + 1 then rsum ad a k else 0) = (fun a => if a < s then rsum ad a k else if a = s then rsum ad s k else 0) from by
                      funext a
                      by_cases h1 : a < s
                      · rw [if_pos h1, if_pos (by omega)]
                      · rw [if_neg h1]
                        by_cases h2 : a = s
                        · subst h2; rw [if_pos (by omega), if_pos rfl]
                        · rw [if_neg h2, if_neg (by omega)]]
                    exact hS)
                  have HB9 := hide hB
                  clear hS hB
                  go_wp2
                  go_roundw
                  case rel => exact ⟨s + 1, by go_num, hlt, HS9.out, HB9.out⟩
                  case measure => simp [intOf]; omega
            · obtain rfl : s = i := by omega
              have hRO : SRow w5 O (rowL s (outV s m es)) := by
                have e3 : rowL s (outV s m es) = rowL s (fun k => if k < s then rsum ad k s else 0) := by
                  unfold rowL
                  refine List.map_congr_left fun a ha => ?_
                  rw [if_pos (List.mem_range.1 ha), ← HAD.out]
                  rfl
                rw [e3]
                exact hS
              have hB15 : Below G w1 w5 := HB14.out.trans (hB.mono (Nat.le_of_lt hG4))
              obtain ⟨t0, t1, t2⟩ := HGr.out w5 hB15
              have hBw : Below w.heap.size w w5 := HB1.out.trans (hB15.mono (by have := HB1.out.size; have := HGG.out; omega))
              have hRf := hide (evRefusal_any L s m es A c O 0 s (outV s m es) (32 * 4294967296 ^ 32) w5 (by omega) hm.2 hl HE.out (HR.out w5 hBw)
                ⟨hRO.lt, fun k hk => by
                  have a := hRO.c0 (k := k) (by rw [rowL_len]; exact hk)
                  have b := hRO.c1 (k := k) (by rw [rowL_len]; exact hk)
                  rw [rowL_get hk] at a b
                  rw [Nat.zero_add]
                  exact ⟨a, b⟩⟩ (fun k hk => by
                  have h := HOU.out k s hk (Nat.le_refl _)
                  rw [← HAD.out] at h
                  exact h) ⟨34, by decide, by decide⟩)
              have HRO := hide (fun W (hW : Below w5.heap.size w5 W) => hRO.belowS hW)
              have HBw := hide hBw
              have hwO : w.heap.size ≤ O := by have := HB1.out.size; have := HGG.out; omega
              clear hRO hB15 hBw hS hB
              cases hrb : refB s es m (outV s m es)
              all_goals (
                rw [hrb] at hRf
                have HRB := hide hrb
                clear hrb
                go_wp2_with fail
                (with_reducible refine hRf.out.mono ?_)
                rintro e w7 ⟨rfl, hB7⟩
                have HRO7 := hide (HRO.out w7 hB7)
                have HB7 := hide (HBw.out.trans (hB7.mono HBw.out.size))
                clear hB7 t0 t1 t2
                go_wp2
                go_ret2)
              · exact ⟨HB7.out, Or.inr ⟨HRB.out, rfl⟩⟩
              · exact ⟨HB7.out, Or.inl ⟨HRB.out, O, rfl, hwO, HRO7.out⟩⟩
end Go.Proofs.YtpppbkdbpbpinaaGreatDoor
