import Derived.Test.YtbnpjoiojhnimaaGreatDoorG6
import Derived.Test.YtbnpjoiojhnimaaGreatDoorG11
import Derived.Test.YtbnpjoiojhnimaaGreatDoorG12
set_option linter.unusedSimpArgs false
set_option linter.unusedVariables false
/- eigenvector.check, whole: their contracts. -/
namespace Go.Proofs.YtbnpjoiojhnimaaGreatDoor
open Go.RowKit Go.Shelf
def badW (n : Int) : Bool := decide (n < 0) || decide (4096 < n)
set_option maxRecDepth 100000 in
theorem evCheckf_any (n : Int) (w : World) :
  Calls Tryz.prog 86 #[.int .i64 n] w fun e w' => e = .returned (.bool (badW n)) ∧ w = w' := by
 by_cases h : n < 0
 ·have hd : decide (n < 0) = true := decide_eq_true h
  have HV := hide (show badW n = true by unfold badW; rw [hd]; rfl)
  clear h
  go_enter Tryz.func86, Tryz.ntmps86
  go_wp2
  go_ret
  exact ⟨by rw [HV.out]; rfl, rfl⟩
 ·have hd : decide (n < 0) = false := decide_eq_false h
  have HV := hide (show badW n = decide (4096 < n) by unfold badW; rw [hd]; rfl)
  clear h
  cases h2 : decide (4096 < n) <;> (
   rw [h2] at HV
   go_enter Tryz.func86, Tryz.ntmps86
   go_wp2
   go_ret
   exact ⟨by rw [HV.out]; rfl, rfl⟩)
def okW (S m : Int) (vs : List Int) : Bool := decide (1 ≤ m) && decide (m ≤ 256) && decide ((vs.length : Int) = S) && !((List.range vs.length).any fun i => badW (vs.getD i 0))
set_option maxRecDepth 100000 in
set_option maxHeartbeats 2000000 in
theorem evCheck_any (L S m : Int) (es : List Edg) (A : Option Addr) (c g o cv : Nat) (vs : List Int) (w : World) (hr : RowE w A es) (hl : vs.length ≤ 4294967296) (hg : g < w.heap.size) (hv : ∀ i, i < vs.length → w.cell? ⟨g, o + i, none⟩ = some (.int .i64 (vs.getD i 0))) :
  Calls Tryz.prog 33 #[.agg #[.int .i64 L, .int .i64 S, .slice A es.length c], .slice (some ⟨g, o, none⟩) vs.length cv, .int .i64 m] w fun e w' => ∃ r : Int, e = .returned (.int .i64 r) ∧ (r == 0) = (okG L S es && okW S m vs) ∧ Below w.heap.size w w' := by
 have hB0 : Below w.heap.size w (w.alloc (.cells #[.int .i64 L, .int .i64 S, .slice A es.length c] 24)) := (Below.refl _ w).alloc (Nat.le_refl _) _
 have hb0 : (w.alloc (.cells #[.int .i64 L, .int .i64 S, .slice A es.length c] 24)).heap[w.heap.size]? = some (.cells #[.int .i64 L, .int .i64 S, .slice A es.length c] 24 (0, 0)) := heap_alloc_new w _
 have HG := hide (grCheck_any L S es A c (w.alloc (.cells #[.int .i64 L, .int .i64 S, .slice A es.length c] 24)) (hr.below hB0))
 have HC := hide (fun W (hW : Below w.heap.size w W) => cfZ_any 86 (fun i => .int .i64 (vs.getD i 0)) (fun i => badW (vs.getD i 0)) vs.length cv g o W hl (Nat.lt_of_lt_of_le hg hW.size) (fun i hi => (hW.cell (p := ⟨g, o + i, none⟩) hg).trans (hv i hi)) (enters_of Tryz.func86 (by kernel_rfl) rfl)
  (hide fun i W' hi hW' => (evCheckf_any (vs.getD i 0) W').mono (by rintro e w' ⟨rfl, rfl⟩; exact ⟨rfl, Below.refl _ _⟩)))
 have HBx := hide (fun W (hW : Below (w.alloc (.cells #[.int .i64 L, .int .i64 S, .slice A es.length c] 24)).heap.size (w.alloc (.cells #[.int .i64 L, .int .i64 S, .slice A es.length c] 24)) W) => show Below w.heap.size w W from hB0.trans (hW.mono hB0.size))
 obtain ⟨Z, hZ⟩ : ∃ Z, w.heap.size = Z := ⟨_, rfl⟩
 rw [hZ] at hb0
 have hZl : Z < (w.alloc (.cells #[.int .i64 L, .int .i64 S, .slice A es.length c] 24)).heap.size := by rw [← hZ]; simp
 have HZ := hide hZ
 clear hr hv hZ hB0
 go_enter Tryz.func33, Tryz.ntmps33
 go_wp2_with fail
 try rw [HZ.out]
 generalize w.alloc (.cells #[.int .i64 L, .int .i64 S, .slice A es.length c] 24) = W0 at hb0 hZl HG HBx ⊢
 have g1 : W0.cell? ⟨Z, 1, none⟩ = some (.int .i64 S) := by rw [cell_of_row _ _ 1 _ 24 (0, 0) hb0]; rfl
 clear hb0
 (with_reducible refine HG.out.mono ?_)
 rintro e w1 ⟨r, rfl, hr0, hB1⟩
 have HB1 := hide (HBx.out _ hB1)
 have s1 := (hB1.cell (p := ⟨Z, 1, none⟩) hZl).trans g1
 clear g1 hB1 hZl
 cases hG : okG L S es with
 | false =>
  rw [hG] at hr0
  have hrn : (r != 0) = true := by rw [bne_iff_ne]; intro h; rw [h] at hr0; exact absurd hr0 (by decide)
  have HGv := hide hG
  clear hr0 hG
  go_wp2
  go_ret
  exact ⟨1, rfl, by rw [HGv.out]; rfl, HB1.out⟩
 | true =>
  rw [hG] at hr0
  have hrn : (r != 0) = false := by rw [bne_eq_false_iff_eq]; exact beq_iff_eq.1 hr0
  have HGv := hide hG
  clear hr0 hG
  by_cases hm : 1 ≤ m ∧ m ≤ 256
  ·obtain ⟨hm1, hm2⟩ := hm
   by_cases hlen : (vs.length : Int) = S
   ·have hne : ((vs.length : Int) != S) = false := by rw [bne_eq_false_iff_eq]; exact hlen
    have HV := hide (show okW S m vs = !((List.range vs.length).any fun i => badW (vs.getD i 0)) by
     unfold okW
     rw [decide_eq_true hm1, decide_eq_true hm2, decide_eq_true hlen]
     simp)
    have HCC := hide (HC.out _ HB1.out)
    clear hlen
    obtain ⟨B, hB⟩ : ∃ B, ((List.range vs.length).any fun i => badW (vs.getD i 0)) = B := ⟨_, rfl⟩
    rw [hB] at HV HCC
    clear hB
    cases B with
    | true =>
     go_wp2_with fail
     (with_reducible refine HCC.out.mono ?_)
     rintro e w2 ⟨rfl, hB2⟩
     have HB2 := hide (HB1.out.trans (hB2.mono HB1.out.size))
     clear hB2
     go_wp2
     go_ret
     exact ⟨2, rfl, by rw [HGv.out, HV.out]; rfl, HB2.out⟩
    | false =>
     go_wp2_with fail
     (with_reducible refine HCC.out.mono ?_)
     rintro e w2 ⟨rfl, hB2⟩
     have HB2 := hide (HB1.out.trans (hB2.mono HB1.out.size))
     clear hB2
     go_wp2
     go_ret
     exact ⟨0, rfl, by rw [HGv.out, HV.out]; rfl, HB2.out⟩
   ·have hne : ((vs.length : Int) != S) = true := by rw [bne_iff_ne]; exact hlen
    have HV := hide (show okW S m vs = false by unfold okW; rw [decide_eq_false hlen]; simp)
    clear hlen
    go_wp2
    go_ret
    exact ⟨11, rfl, by rw [HGv.out, HV.out]; rfl, HB1.out⟩
  ·have HV := hide (show okW S m vs = false by
    unfold okW
    by_cases h1 : 1 ≤ m
    ·rw [decide_eq_false (show ¬ m ≤ 256 from fun h => hm ⟨h1, h⟩)]; simp
    ·rw [decide_eq_false h1]; simp)
   by_cases h1 : 1 ≤ m
   ·have hd : decide ((256 : Int) < m) = true := decide_eq_true (by omega)
    clear hm
    go_wp2
    go_ret
    exact ⟨2, rfl, by rw [HGv.out, HV.out]; rfl, HB1.out⟩
   ·have hd : decide (m < 1) = true := decide_eq_true (by omega)
    clear hm
    go_wp2
    go_ret
    exact ⟨2, rfl, by rw [HGv.out, HV.out]; rfl, HB1.out⟩
theorem infoIntZ : (Tryz.prog.info? 3).map (fun i => (i.zero, i.size, i.bytes)) = some (some (.int .i64 0), 1, 8) := by kernel_rfl
theorem run_make_zs (n : Nat) (hn : n ≤ 70000) (w : World) :
  (Instr.makeSlice 31 (.int .i64 (n : Int)) (.int .i64 (n : Int))).run Tryz.prog w = .ok (.slice (some ⟨w.heap.size, 0, none⟩) n n) (w.alloc (.cells (Array.replicate n (.int .i64 0)) 3)) := by
 obtain ⟨i0, hi, hz0, hz1, hz2⟩ := info_parts infoIntZ
 have h := run_make (P := Tryz.prog) w 31 3 i0 _ Tryz.underlying31 hi hz0 .i64 .i64 n n (by omega) (by omega) (by rw [hz2]; omega) (by omega)
 simp only [Int.toNat_natCast, hz1, Nat.mul_one] at h
 rw [h, made_one _ rfl, List.toArray_replicate]
def okM (m : Int) : Bool := decide (1 ≤ m) && decide (m ≤ 256)
theorem okG_size {L S : Int} {es : List Edg} (h : okG L S es = true) : 0 ≤ S ∧ S ≤ 64 ∧ es.length ≤ 1024 := by
 unfold okG at h
 simp only [Bool.and_eq_true, decide_eq_true_eq] at h
 obtain ⟨⟨⟨⟨⟨h1, h2⟩, h3⟩, h4⟩, h5⟩, h6⟩ := h
 exact ⟨h3, h4, h5⟩
theorem okW_zero (n : Nat) (m : Int) : okW (n : Int) m (List.replicate n 0) = okM m := by
 unfold okW okM
 have h1 : ((List.range (List.replicate n (0 : Int)).length).any fun i => badW ((List.replicate n (0 : Int)).getD i 0)) = false := by
  rw [List.any_eq_false]
  intro i hi
  have : (List.replicate n (0 : Int)).getD i 0 = 0 := by
   rw [List.getD_eq_getElem?_getD, List.getElem?_replicate]; split <;> rfl
  rw [this]
  decide
 rw [h1, List.length_replicate]
 simp
set_option maxRecDepth 100000 in
set_option maxHeartbeats 2000000 in
theorem evWhole_any (L S m : Int) (es : List Edg) (A : Option Addr) (c : Nat) (w : World) (hr : RowE w A es) :
  Calls Tryz.prog 21 #[.agg #[.int .i64 L, .int .i64 S, .slice A es.length c], .int .i64 m] w fun e w' => ∃ r : Int, e = .returned (.int .i64 r) ∧ (r == 0) = (okG L S es && okM m) ∧ Below w.heap.size w w' := by
 have hB0 : Below w.heap.size w (w.alloc (.cells #[.int .i64 L, .int .i64 S, .slice A es.length c] 24)) := (Below.refl _ w).alloc (Nat.le_refl _) _
 have hb0 : (w.alloc (.cells #[.int .i64 L, .int .i64 S, .slice A es.length c] 24)).heap[w.heap.size]? = some (.cells #[.int .i64 L, .int .i64 S, .slice A es.length c] 24 (0, 0)) := heap_alloc_new w _
 have HG := hide (grCheck_any L S es A c (w.alloc (.cells #[.int .i64 L, .int .i64 S, .slice A es.length c] 24)) (hr.below hB0))
 have HBx := hide (fun W (hW : Below (w.alloc (.cells #[.int .i64 L, .int .i64 S, .slice A es.length c] 24)).heap.size (w.alloc (.cells #[.int .i64 L, .int .i64 S, .slice A es.length c] 24)) W) => show Below w.heap.size w W from hB0.trans (hW.mono hB0.size))
 have HR := hide (fun W (hW : Below w.heap.size w W) => hr.below hW)
 obtain ⟨Z, hZ⟩ : ∃ Z, w.heap.size = Z := ⟨_, rfl⟩
 rw [hZ] at hb0
 have hZl : Z < (w.alloc (.cells #[.int .i64 L, .int .i64 S, .slice A es.length c] 24)).heap.size := by rw [← hZ]; simp
 have HZ := hide hZ
 clear hr hZ hB0
 go_enter Tryz.func21, Tryz.ntmps21
 go_wp2_with fail
 try rw [HZ.out]
 generalize w.alloc (.cells #[.int .i64 L, .int .i64 S, .slice A es.length c] 24) = W0 at hb0 hZl HG HBx ⊢
 have g0 : W0.cell? ⟨Z, 0, none⟩ = some (.int .i64 L) := by rw [cell_of_row _ _ 0 _ 24 (0, 0) hb0]; rfl
 have g1 : W0.cell? ⟨Z, 1, none⟩ = some (.int .i64 S) := by rw [cell_of_row _ _ 1 _ 24 (0, 0) hb0]; rfl
 have g2 : W0.cell? ⟨Z, 2, none⟩ = some (.slice A es.length c) := by rw [cell_of_row _ _ 2 _ 24 (0, 0) hb0]; rfl
 clear hb0
 (with_reducible refine HG.out.mono ?_)
 rintro e w1 ⟨r, rfl, hr0, hB1⟩
 have HB1 := hide (HBx.out _ hB1)
 have s0 := (hB1.cell (p := ⟨Z, 0, none⟩) hZl).trans g0
 have s1 := (hB1.cell (p := ⟨Z, 1, none⟩) hZl).trans g1
 have s2 := (hB1.cell (p := ⟨Z, 2, none⟩) hZl).trans g2
 have hZl1 := Nat.lt_of_lt_of_le hZl hB1.size
 clear g0 g1 g2 hB1 hZl
 cases hG : okG L S es with
 | false =>
  rw [hG] at hr0
  have hrn : (r != 0) = true := by rw [bne_iff_ne]; intro h; rw [h] at hr0; exact absurd hr0 (by decide)
  have HGv := hide hG
  clear hr0 hG
  go_wp2
  go_ret
  exact ⟨1, rfl, by rw [HGv.out]; rfl, HB1.out⟩
 | true =>
  rw [hG] at hr0
  have hrn : (r != 0) = false := by rw [bne_eq_false_iff_eq]; exact beq_iff_eq.1 hr0
  obtain ⟨h0, h64, _⟩ := okG_size hG
  obtain ⟨n, rfl⟩ : ∃ n : Nat, S = (n : Int) := ⟨S.toNat, by omega⟩
  have hn7 : n ≤ 70000 := by omega
  have hmk := fun W => run_make_zs n hn7 W
  have hall := hide (show ∀ W, Below w1.heap.size w1 W → W.cell? ⟨Z, 0, none⟩ = some (.int .i64 L) ∧ W.cell? ⟨Z, 1, none⟩ = some (.int .i64 (n : Int)) ∧ W.cell? ⟨Z, 2, none⟩ = some (.slice A es.length c) from fun W hW =>
   ⟨(hW.cell (p := ⟨Z, 0, none⟩) hZl1).trans s0, (hW.cell (p := ⟨Z, 1, none⟩) hZl1).trans s1, (hW.cell (p := ⟨Z, 2, none⟩) hZl1).trans s2⟩)
  have HV := hide (hG)
  have hAcc : Below w1.heap.size w1 w1.drew := (Below.refl _ _).drew
  have hAccA : Below w1.heap.size w1 ((w1.alloc (.cells (Array.replicate n (.int .i64 0)) 3)).drew) := ((Below.refl _ w1).alloc (Nat.le_refl _) _).drew
  have hnew := heap_alloc_new w1 (.cells (Array.replicate n (Value.int .i64 0)) 3)
  have hnl : (List.replicate n (0 : Int)).length = n := List.length_replicate
  have HE := hide (evCheck_any L n m es A c w1.heap.size 0 n (List.replicate n 0) ((w1.alloc (.cells (Array.replicate n (.int .i64 0)) 3)).drew) (HR.out _ (HB1.out.trans (hAccA.mono HB1.out.size))) (by rw [hnl]; omega) (by show w1.heap.size < (w1.alloc _).heap.size; simp) (fun i hi => by
   rw [hnl] at hi
   show (w1.alloc _).cell? _ = _
   rw [Nat.zero_add, cell_of_row _ _ i _ 3 (0, 0) hnew]
   have e1 : (List.replicate n (0 : Int)).getD i 0 = 0 := by
    rw [List.getD_eq_getElem?_getD, List.getElem?_replicate]; split <;> rfl
   rw [e1]
   simp [hi]))
  rw [hnl, okW_zero, HV.out, Bool.true_and] at HE
  clear hr0 hG h0 h64 s0 s1 s2 hnl hnew
  go_wp2_with fail
  go_region_held3 (fun W => W.cell? ⟨Z, 0, none⟩ = some (.int .i64 L) ∧ W.cell? ⟨Z, 1, none⟩ = some (.int .i64 (n : Int)) ∧ W.cell? ⟨Z, 2, none⟩ = some (.slice A es.length c))
   (first | with_reducible exact hall.out _ hAcc | with_reducible exact hall.out _ hAccA | with_reducible exact hall.out _ (Below.trans hAccA hB9))
   (first | (go_at_call 33; (with_reducible refine HE.out.mono ?_); rintro e w2 ⟨r2, rfl, hr2, hB2⟩; have hB9 := hB2.mono hAccA.size))
  all_goals (
   have HR2 := hide hr2
   have HB2 := hide (HB1.out.trans ((hAccA.trans hB9).mono HB1.out.size))
   clear hr2 hB9 hAccA hAcc hB2
   go_wp2
   go_ret
   exact ⟨r2, rfl, by rw [HR2.out, HV.out, Bool.true_and], HB2.out⟩)
end Go.Proofs.YtbnpjoiojhnimaaGreatDoor
