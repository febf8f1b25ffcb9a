/- tenengolts.Size: its contract. -/
import Derived.Test.YtijeogengbphdaaSizF
import Derived.Test.YtijeogengbphdaaAll
set_option linter.unusedVariables false
namespace Go.Proofs.Ytijeogengbphdaa
open Go.RowKit
def sizeN (n a : Int) : Nat := if tck n a ≠ 0 then 0 else (cnts n.toNat n.toNat).getD a.toNat 0
theorem ret_intE {fn : Func} {p u : Tmp} (h : fn.results = #[.cell p 39, .tmp u]) (tmps : Array Value) (w : World) (g : Nat) (cs : Array Value) (hp : tmps.getD p undef = .pointer (some ⟨g, 0, none⟩)) (hg : w.heap[g]? = some (.cells cs 39 (0, 0))) (hcs : cs.size = 2) :
    (results fn tmps).run Try.prog w = .ok (.tuple #[.agg cs, tmps.getD u undef]) w := by
  rw [results_cell_tmp h, hp]
  simp [asAddr, Result.andThen, run_loadVar_row w g 39 39 cs (0, 0) _ hg Try.underlying39 rfl (by rw [hcs]; exact apiIntSize)]
theorem mg_zero : mg 0 = ⟨#[]⟩ := by unfold mg; rw [beN_zero]
/-- a block that is just one number -/
def VarI (w : World) (b : Nat) (z : Int) : Prop := w.heap[b]? = some (.cells #[.int .i64 z] 3 (0, 0))
theorem VarI.cell {w : World} {b : Nat} {z : Int} (h : VarI w b z) : w.cell? ⟨b, 0, none⟩ = some (.int .i64 z) := by rw [cell_of_row w b 0 _ _ _ h]; rfl
theorem VarS.below' {w w' : World} {b B : Nat} {v : Value} (h : VarS w b v) (hb : Below B w w') (hg : b < B) : VarS w' b v := (hb.block b hg).trans h
theorem Off.below {B B' b : Nat} {w w' : World} (h : Off B' b w w') (h1 : B ≤ b) (h2 : B ≤ B') : Below B w w' := ⟨h.os, h.tape, h.output, h.size, fun k hk => h.block k (by omega) (by omega)⟩
theorem cnts_zero (m : Nat) : (List.replicate (m + 1) 0).set 0 1 = cnts m 0 := by
  rw [List.replicate_succ]; rfl
theorem boxI (w : World) (z : Int) :
    VarI ((w.alloc (.cells #[.int .i64 z] 3)).alloc (.cells #[.bool false, .string ⟨#[]⟩] 39)) w.heap.size z ∧
    ResI ((w.alloc (.cells #[.int .i64 z] 3)).alloc (.cells #[.bool false, .string ⟨#[]⟩] 39)) (w.heap.size + 1) false ⟨#[]⟩ ∧
    ((w.alloc (.cells #[.int .i64 z] 3)).alloc (.cells #[.bool false, .string ⟨#[]⟩] 39)).heap.size = w.heap.size + 1 + 1 ∧
    Below w.heap.size w ((w.alloc (.cells #[.int .i64 z] 3)).alloc (.cells #[.bool false, .string ⟨#[]⟩] 39)) := by
  have h1 : VarI (w.alloc (.cells #[.int .i64 z] 3)) w.heap.size z := heap_alloc_new w _
  have e1 : (w.alloc (.cells #[.int .i64 z] 3)).heap.size = w.heap.size + 1 := by simp
  have b1 : Below w.heap.size w (w.alloc (.cells #[.int .i64 z] 3)) := (Below.refl _ w).alloc (Nat.le_refl _) _
  generalize w.alloc (.cells #[.int .i64 z] 3) = w1 at h1 e1 b1
  have h2 := ResI.new_ w1 false ⟨#[]⟩
  have e2 : (w1.alloc (.cells #[.bool false, .string ⟨#[]⟩] 39)).heap.size = w1.heap.size + 1 := by simp
  have b2 : Below w1.heap.size w1 (w1.alloc (.cells #[.bool false, .string ⟨#[]⟩] 39)) := (Below.refl _ w1).alloc (Nat.le_refl _) _
  generalize w1.alloc (.cells #[.bool false, .string ⟨#[]⟩] 39) = w2 at h2 e2 b2
  rw [e1] at h2 e2 b2
  exact ⟨(b2.block _ (Nat.lt_succ_self _)).trans h1, h2, e2, b1.trans (b2.mono (by omega))⟩
theorem boxS (w : World) (M : Nat) (v : Value) :
    IRow ((w.alloc (.cells (icells (List.replicate M 0)).toArray 39)).alloc (.cells #[v] 69)) w.heap.size (List.replicate M 0) ∧
    VarS ((w.alloc (.cells (icells (List.replicate M 0)).toArray 39)).alloc (.cells #[v] 69)) (w.heap.size + 1) v ∧
    ((w.alloc (.cells (icells (List.replicate M 0)).toArray 39)).alloc (.cells #[v] 69)).heap.size = w.heap.size + 1 + 1 ∧
    Below w.heap.size w ((w.alloc (.cells (icells (List.replicate M 0)).toArray 39)).alloc (.cells #[v] 69)) := by
  have h1 := IRow.new_ w (List.replicate M 0)
  have e1 : (w.alloc (.cells (icells (List.replicate M 0)).toArray 39)).heap.size = w.heap.size + 1 := by simp
  have b1 : Below w.heap.size w (w.alloc (.cells (icells (List.replicate M 0)).toArray 39)) := (Below.refl _ w).alloc (Nat.le_refl _) _
  generalize w.alloc (.cells (icells (List.replicate M 0)).toArray 39) = w1 at h1 e1 b1
  have h2 : VarS (w1.alloc (.cells #[v] 69)) w1.heap.size v := heap_alloc_new w1 _
  have e2 : (w1.alloc (.cells #[v] 69)).heap.size = w1.heap.size + 1 := by simp
  have b2 : Below w1.heap.size w1 (w1.alloc (.cells #[v] 69)) := (Below.refl _ w1).alloc (Nat.le_refl _) _
  generalize w1.alloc (.cells #[v] 69) = w2 at h2 e2 b2
  rw [e1] at h2 e2 b2
  exact ⟨h1.below b2 (Nat.lt_succ_self _), h2, e2, b1.trans (b2.mono (by omega))⟩
set_option maxRecDepth 100000 in
set_option maxHeartbeats 4000000 in
theorem tSize_any (n a : Int) (w : World) :
    Calls Try.prog 27 #[.int .i64 n, .int .i64 a] w fun e w' => e = .returned (.tuple #[.agg #[.bool false, .string (mg (sizeN n a))], .int .i64 (tck n a)]) ∧ Below w.heap.size w w' := by
  by_cases ht : tck n a = 0
  · have hb := tck_bounds' ht
    have HT := hide ht
    obtain ⟨m, rfl⟩ := Int.eq_ofNat_of_zero_le hb.1
    obtain ⟨k, rfl⟩ := Int.eq_ofNat_of_zero_le (show 0 ≤ a by omega)
    obtain ⟨M, hM⟩ : ∃ M, M = m + 1 := ⟨_, rfl⟩
    have hMi : (m : Int) + 1 = (M : Int) := by omega
    have hmk := fun W => run_make_is M (by omega) W
    obtain ⟨c0, c1, hs0, hB0⟩ := boxI w m
    obtain ⟨B, hBB⟩ : ∃ B, w.heap.size = B := ⟨_, rfl⟩
    have HM := hide hM
    clear hM ht
    go_enter Try.func27, Try.ntmps27
    go_wp2_with fail
    rw [hBB] at c0 c1 hs0 hB0
    generalize (w.alloc (.cells #[.int .i64 (m : Int)] 3)).alloc (.cells #[.bool false, .string ⟨#[]⟩] 39) = W0 at c0 c1 hs0 hB0 ⊢
    obtain ⟨G, hG⟩ : ∃ G, G = B + 1 + 1 := ⟨_, rfl⟩
    rw [← hG] at hs0
    obtain ⟨r0, v0, hs1, hB1⟩ := boxS W0 M (.slice (some ⟨G, 0, none⟩) M M)
    rw [hs0] at r0 v0 hs1 hB1
    have f0 := c0.cell
    obtain ⟨R, hR⟩ : ∃ R, R = B + 1 := ⟨_, rfl⟩
    obtain ⟨V, hV⟩ : ∃ V, V = G + 1 := ⟨_, rfl⟩
    rw [← hR] at c1 ⊢
    rw [← hV] at v0 hs1
    have hGV : G + 1 = V := hV.symm
    have HR := hide hR
    have HV := hide hV
    have HG := hide hG
    have lB : B < V + 1 := by omega
    have lR : R < V + 1 := by omega
    have lG : G < V + 1 := by omega
    have lV : V < V + 1 := by omega
    have lB2 : B < G := by omega
    have lR2 : R < G := by omega
    clear hR hV hG
    go_wp2_with (go_at_call 39; refine (tchk_any _ _ _).mono ?_; rintro e w' ⟨rfl, rfl⟩; rw [HT.out])
    have k0 := (hB1.block B lB2).trans c0
    have k1 := (hB1.block R lR2).trans c1
    have hB2 := hB0.trans (hB1.mono (by omega))
    generalize (W0.alloc (.cells (icells (List.replicate M 0)).toArray 39)).alloc (.cells #[.slice (some ⟨G, 0, none⟩) M M] 69) = W1 at r0 v0 hs1 hB1 k0 k1 hB2 ⊢
    have hM1 : 0 < M := by have := HM.out; omega
    have hMp : (0 : Int) < (M : Int) := by omega
    have q := v0.cell
    have HO := hide (fun W => iOf_agg 1 (by decide) W)
    clear hmk hB0 c0 c1 hB1 f0
    go_region_with (first | (go_at_call 33; refine (HO.out _).mono ?_; rintro e w3 ⟨rfl, hB3⟩; have hB4 : Below (V + 1) W1 w3 := (Below.refl (V + 1) W1).drew.trans (hB3.mono (Nat.le_of_eq hs1.symm)); have r3 := r0.below hB4 lG; have v3 := v0.below' hB4 lV; have q3 := v3.cell; have y0 := r3.c0 (k := 0) (by rw [List.length_replicate]; exact hM1); have y1 := r3.c1 (k := 0) (by rw [List.length_replicate]; exact hM1); have z0 := r3.free_ (0 * 2); have z1 := r3.free_ (0 * 2 + 1)))
    all_goals (
      have hR4 : IRow ((w3.setCell ⟨G, 0, none⟩ (.bool false)).setCell ⟨G, 1, none⟩ (.string (mg 1))) G (cnts m 0) := by
        have := r3.set_ (k := 0) (by rw [List.length_replicate]; exact hM1) 1
        rw [HM.out, cnts_zero] at this
        exact this
      have hV4 : VarS ((w3.setCell ⟨G, 0, none⟩ (.bool false)).setCell ⟨G, 1, none⟩ (.string (mg 1))) V (.slice (some ⟨G, 0, none⟩) M M) := by
        unfold VarS
        rw [Below.heap_setCell _ ⟨G, 1, none⟩ _ V (by show V ≠ G; omega), Below.heap_setCell _ ⟨G, 0, none⟩ _ V (by show V ≠ G; omega)]
        exact v3
      have hI4 : VarI ((w3.setCell ⟨G, 0, none⟩ (.bool false)).setCell ⟨G, 1, none⟩ (.string (mg 1))) B m := by
        unfold VarI
        rw [Below.heap_setCell _ ⟨G, 1, none⟩ _ B (by show B ≠ G; omega), Below.heap_setCell _ ⟨G, 0, none⟩ _ B (by show B ≠ G; omega)]
        exact (hB4.block B lB).trans k0
      have hC4 : ResI ((w3.setCell ⟨G, 0, none⟩ (.bool false)).setCell ⟨G, 1, none⟩ (.string (mg 1))) R false ⟨#[]⟩ :=
        ResI.otherAt ((hB4.block R lR).trans k1) (by omega) 0 1 _ _
      have hB5 : Below B w ((w3.setCell ⟨G, 0, none⟩ (.bool false)).setCell ⟨G, 1, none⟩ (.string (mg 1))) := Below.pairAt (hB2.trans (hB4.mono (by omega))) (by omega) _ _ _ _
      have hs5 : V + 1 ≤ ((w3.setCell ⟨G, 0, none⟩ (.bool false)).setCell ⟨G, 1, none⟩ (.string (mg 1))).heap.size :=
        Nat.le_trans (Nat.le_trans (Nat.le_of_eq hs1.symm) hB4.size) (Below.pairAt (Below.refl 0 w3) (Nat.zero_le G) 0 1 _ _).size
      generalize (w3.setCell ⟨G, 0, none⟩ (.bool false)).setCell ⟨G, 1, none⟩ (.string (mg 1)) = W4 at hR4 hV4 hI4 hC4 hB5 hs5 ⊢
      clear hB3 hB4 r3 v3 q3 y0 y1 z0 z1 HO q hB2 k0 k1 hs1 v0 r0
      have f0 := hI4.cell
      go_wp2
      go_loopw [25] (fun iv wr => ∃ i : Nat, iv = .int .i64 i ∧ i ≤ m ∧ ∃ g, VarS wr V (.slice (some ⟨g, 0, none⟩) M M) ∧ IRow wr g (cnts m i) ∧ VarI wr B m ∧ ResI wr R false ⟨#[]⟩ ∧ Below B w wr ∧ V + 1 ≤ wr.heap.size) (fun iv _ => m - (intOf iv).toNat)
      case atStart => exact ⟨0, rfl, Nat.zero_le _, G, hV4, hR4, hI4, hC4, hB5, hs5⟩
      case round =>
        obtain ⟨i, rfl, hi, g, hV, hRw, hI, hC, hB, hsz⟩ := hrel
        clear hV4 hR4 hI4 hC4 hB5 hs5 f0
        by_cases hlt : i < m
        · have HF := sizeClo_any m (i + 1) (cnts m i) B V g wr (by omega) (by omega) hlt (cnts_len m i) (fun k => by
            refine Nat.le_trans (cnts_le m i k) ?_
            exact Nat.le_trans (Nat.pow_le_pow_right (by decide) (show i ≤ 63 by omega)) (by decide)) hI.cell (by omega) (by rw [← HM.out]; exact hV) (by omega) hRw hRw.lt
          rw [show ((i + 1 : Nat) : Int) = (i : Int) + 1 by omega, nxtL_all, ← HM.out] at HF
          have HH := hide HF
          clear HF
          go_wp2_with (go_at_call 52; refine HH.out.mono ?_; rintro e w5 ⟨rfl, hv5, hr5, hs5, ho5⟩)
          go_roundw
          case rel =>
            exact ⟨i + 1, by go_num, hlt, wr.heap.size, hv5, hr5, (ho5.block B (by omega) (by omega)).trans hI, (ho5.block R (by omega) (by have := HR.out; have := HG.out; omega)).trans hC, hB.trans (ho5.below (by omega) (by omega)), by omega⟩
          case measure => simp [intOf]; omega
        · obtain rfl : i = m := by omega
          have q0 := hRw.c0 (k := k) (by rw [cnts_len]; omega)
          have q1 := hRw.c1 (k := k) (by rw [cnts_len]; omega)
          have qv := hV.cell
          have r0 := hC.c0
          have r1 := hC.c1
          have z0 := hC.z0
          have z1 := hC.z1
          have hkM : (k : Int) < (M : Int) := by omega
          have hk0 : (0 : Int) ≤ (k : Int) := by omega
          have HSZ := hide (show sizeN (i : Int) (k : Int) = (cnts i i).getD k 0 by unfold sizeN; rw [if_neg (fun h => h HT.out)]; simp)
          go_wp2
          refine bodyPost_ret (ret_intE rfl _ _ R _ rfl (hC.set_ _ _) rfl) rfl ?_
          refine ⟨by rw [HSZ.out, HT.out]; rfl, ?_⟩
          rw [hBB]
          exact Below.pair hB (by have := HR.out; omega) _ _)
  · have HR := hide (show sizeN n a = 0 by unfold sizeN; rw [if_pos ht])
    have HT := hide (show tck n a = 2 by unfold tck at ht ⊢; split at ht <;> simp_all)
    clear ht
    obtain ⟨_, c1, _, hB0⟩ := boxI w n
    go_enter Try.func27, Try.ntmps27
    go_wp2_with (go_at_call 39; refine (tchk_any _ _ _).mono ?_; rintro e w' ⟨rfl, rfl⟩; rw [HT.out])
    refine bodyPost_ret (ret_intE rfl _ _ (w.heap.size + 1) _ rfl c1 rfl) rfl ?_
    exact ⟨by rw [HR.out, HT.out, mg_zero]; rfl, hB0⟩
end Go.Proofs.Ytijeogengbphdaa
