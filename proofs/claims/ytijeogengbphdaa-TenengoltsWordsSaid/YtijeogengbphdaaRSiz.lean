/- grooveref48.Size: its contract. -/
import Derived.Test.YtijeogengbphdaaTSiz
set_option linter.unusedVariables false
namespace Go.Proofs.Ytijeogengbphdaa
open Go.RowKit
def rnx (m p : Nat) (c : List Nat) (k j : Nat) : Nat := if j < k then c.getD j 0 + c.getD ((j + m + 1 - p) % (m + 1)) 0 else 0
def rnL (m p : Nat) (c : List Nat) (k : Nat) : List Nat := (List.range (m + 1)).map (rnx m p c k)
theorem rnL_len (m p : Nat) (c : List Nat) (k : Nat) : (rnL m p c k).length = m + 1 := by simp [rnL]
theorem rnL_zero (m p : Nat) (c : List Nat) : rnL m p c 0 = List.replicate (m + 1) 0 := by
  apply List.ext_getElem
  · simp [rnL]
  · intro k h1 h2
    simp [rnL, rnx]
theorem rnL_set {m p k : Nat} {c : List Nat} (hk : k ≤ m) : (rnL m p c k).set k (c.getD k 0 + c.getD ((k + m + 1 - p) % (m + 1)) 0) = rnL m p c (k + 1) := by
  apply List.ext_getElem
  · simp [rnL]
  · intro j h1 h2
    rw [List.getElem_set]
    simp only [rnL, List.getElem_map, List.getElem_range, rnx]
    split
    · rename_i e; subst e; rw [if_pos (Nat.lt_succ_self _)]
    · rename_i e
      by_cases h : j < k
      · rw [if_pos h, if_pos (by omega)]
      · rw [if_neg h, if_neg (by omega)]
theorem rnL_all (m i : Nat) : rnL m (i + 1) (cnts m i) (m + 1) = cnts m (i + 1) := by
  apply List.ext_getElem
  · rw [rnL_len, cnts_len]
  · intro j h1 h2
    have hj : j < m + 1 := by rw [cnts_len] at h2; exact h2
    simp only [rnL, rnx, cnts, List.getElem_map, List.getElem_range]
    rw [if_pos hj]
set_option maxRecDepth 100000 in
set_option maxHeartbeats 4000000 in
theorem rSize_any (n a : Int) (w : World) :
    Calls Try.prog 28 #[.int .i64 n, .int .i64 a] w fun e w' => e = .returned (.tuple #[.agg #[.bool false, .string (mg (sizeN n a))], .int .i64 (tck n a)]) ∧ Below w.heap.size w w' := by
  have hB0 : Below w.heap.size w (w.alloc (Obj.cells #[Value.bool false, Value.string { data := #[] }] 39)) := (Below.refl _ w).alloc (Nat.le_refl _) _
  have c1 : ResI (w.alloc (Obj.cells #[Value.bool false, Value.string { data := #[] }] 39)) w.heap.size false ⟨#[]⟩ := ResI.new_ w _ _
  have hs0 : (w.alloc (Obj.cells #[Value.bool false, Value.string { data := #[] }] 39)).heap.size = w.heap.size + 1 := by simp
  by_cases ht : tck n a = 0
  · have hb := tck_bounds' ht
    have HT := hide ht
    have HI := hide (fun W => inside_t n a W ht)
    obtain ⟨m, rfl⟩ := Int.eq_ofNat_of_zero_le hb.1
    obtain ⟨k, rfl⟩ := Int.eq_ofNat_of_zero_le (show 0 ≤ a by omega)
    obtain ⟨M, hM⟩ : ∃ M, M = m + 1 := ⟨_, rfl⟩
    have hMi : (m : Int) + 1 = (M : Int) := by omega
    have hmk := fun W => run_make_is M (by omega) W
    have HM := hide hM
    have hM1 : 0 < M := by omega
    have hM65 : M ≤ 65 := by omega
    obtain ⟨R, hBB⟩ : ∃ R, w.heap.size = R := ⟨_, rfl⟩
    clear hM ht
    go_enter Try.func28, Try.ntmps28
    go_wp2_with fail
    rw [hBB] at hB0 c1 hs0
    generalize w.alloc (Obj.cells #[Value.bool false, Value.string { data := #[] }] 39) = W0 at hB0 c1 hs0 ⊢
    refine (HI.out W0).mono ?_
    rintro e w' ⟨rfl, rfl⟩
    obtain ⟨G, hG⟩ : ∃ G, R + 1 = G := ⟨_, rfl⟩
    rw [hG] at hs0
    have r0 := IRow.new_ W0 (List.replicate M 0)
    have hs1 : (W0.alloc (.cells (icells (List.replicate M 0)).toArray 39)).heap.size = W0.heap.size + 1 := by simp
    have b1 : Below W0.heap.size W0 (W0.alloc (.cells (icells (List.replicate M 0)).toArray 39)) := (Below.refl _ W0).alloc (Nat.le_refl _) _
    rw [hs0] at r0 hs1 b1
    have HG := hide hG
    clear hG
    go_wp2_with fail
    have hB1 := hB0.trans (b1.mono (by have := HG.out; omega))
    have c2 := c1.below b1 (by have := HG.out; omega)
    generalize W0.alloc (.cells (icells (List.replicate M 0)).toArray 39) = W1 at r0 hs1 hB1 c2 ⊢
    have HO := r1Of_mg 1 (by decide) W1
    refine HO.mono ?_
    rintro e w3 ⟨rfl, hB3⟩
    rw [hs1] at hB3
    have r3 := r0.below hB3 (Nat.lt_succ_self _)
    have y0 := r3.c0 (k := 0) (by rw [List.length_replicate]; exact hM1)
    have y1 := r3.c1 (k := 0) (by rw [List.length_replicate]; exact hM1)
    have z0 := r3.free_ (0 * 2)
    have z1 := r3.free_ (0 * 2 + 1)
    have hMp : (0 : Int) < (M : Int) := by omega
    have c3 := c2.below hB3 (by have := HG.out; omega)
    have hB4 := hB1.trans (hB3.mono (by have := HG.out; omega))
    have hs3 : G + 1 ≤ w3.heap.size := Nat.le_trans (Nat.le_of_eq hs1.symm) hB3.size
    clear hB0 c1 b1 HI hB3 r0 c2 hB1 hs1 hs0
    go_wp2
    have hR4 : IRow ((w3.setCell ⟨G, 0, none⟩ (.bool false)).setCell ⟨G, 1, none⟩ (.string (mg 1))) G (cnts m 0) := by
      have := r3.set_ (k := 0) (by rw [List.length_replicate]; exact hM1) 1
      rw [HM.out, cnts_zero] at this
      exact this
    have hC4 : ResI ((w3.setCell ⟨G, 0, none⟩ (.bool false)).setCell ⟨G, 1, none⟩ (.string (mg 1))) R false ⟨#[]⟩ :=
      c3.otherAt (by have := HG.out; omega) 0 1 _ _
    have hB5 : Below R w ((w3.setCell ⟨G, 0, none⟩ (.bool false)).setCell ⟨G, 1, none⟩ (.string (mg 1))) := Below.pairAt hB4 (by have := HG.out; omega) _ _ _ _
    have hs5 : R + 1 ≤ ((w3.setCell ⟨G, 0, none⟩ (.bool false)).setCell ⟨G, 1, none⟩ (.string (mg 1))).heap.size :=
      Nat.le_trans (by have := HG.out; omega) (Below.pairAt (Below.refl 0 w3) (Nat.zero_le G) 0 1 _ _).size
    generalize (w3.setCell ⟨G, 0, none⟩ (.bool false)).setCell ⟨G, 1, none⟩ (.string (mg 1)) = W4 at hR4 hC4 hB5 hs5 ⊢
    clear r3 y0 y1 z0 z1 c3 hB4 hs3
    go_loopw [6, 7] (fun av iv wr => ∃ i g : Nat, iv = .int .i64 ((i : Int) + 1) ∧ av = .slice (some ⟨g, 0, none⟩) M M ∧ i ≤ m ∧ IRow wr g (cnts m i) ∧ ResI wr R false ⟨#[]⟩ ∧ Below R w wr ∧ R + 1 ≤ wr.heap.size) (fun _ iv _ => m + 1 - (intOf iv).toNat)
    case atStart => exact ⟨0, G, rfl, rfl, Nat.zero_le _, hR4, hC4, hB5, hs5⟩
    case round =>
      obtain ⟨i, g, rfl, rfl, hi, hRw, hC, hB, hsz⟩ := hrel
      clear hR4 hC4 hB5 hs5
      by_cases hlt : i < m
      · have r0 := IRow.new_ wr (List.replicate M 0)
        have hs1 : (wr.alloc (.cells (icells (List.replicate M 0)).toArray 39)).heap.size = wr.heap.size + 1 := by simp
        have b1 : Below wr.heap.size wr (wr.alloc (.cells (icells (List.replicate M 0)).toArray 39)) := (Below.refl _ wr).alloc (Nat.le_refl _) _
        obtain ⟨N, hN⟩ : ∃ N, wr.heap.size = N := ⟨_, rfl⟩
        have hgN := hRw.lt
        rw [hN] at r0 hs1 b1 hsz hgN
        have hRw1 := hRw.below b1 hgN
        have hC1 := hC.below b1 (by omega)
        have hB1 := hB.trans (b1.mono (by omega))
        have hil : decide ((i : Int) + 1 ≤ (m : Int)) = true := decide_eq_true (by omega)
        go_wp2
        generalize wr.alloc (.cells (icells (List.replicate M 0)).toArray 39) = W5 at r0 hs1 hRw1 hC1 hB1 ⊢
        rw [HM.out, ← rnL_zero m (i + 1) (cnts m i)] at r0
        clear hRw hC hB b1
        go_loopw [9] (fun kv wq => ∃ j : Nat, kv = .int .i64 j ∧ j ≤ M ∧ IRow wq N (rnL m (i + 1) (cnts m i) j) ∧ IRow wq g (cnts m i) ∧ ResI wq R false ⟨#[]⟩ ∧ Below R w wq ∧ N + 1 ≤ wq.heap.size) (fun kv _ => M - (intOf kv).toNat)
        case atStart => exact ⟨0, rfl, Nat.zero_le _, r0, hRw1, hC1, hB1, Nat.le_of_eq hs1.symm⟩
        case round =>
          obtain ⟨j, rfl, hj, hn, hg, hC, hB, hsq⟩ := hrel
          clear r0 hRw1 hC1 hB1 hs1
          by_cases hlj : j < M
          · obtain ⟨q, hq⟩ : ∃ q, q = (j + m + 1 - (i + 1)) % (m + 1) := ⟨_, rfl⟩
            have hqM : q < M := by rw [hq, HM.out]; exact Nat.mod_lt _ (by omega)
            have w1 : IntKind.i64.wrap ((j : Int) + (m : Int)) = (j : Int) + (m : Int) := IntWalk.i64_in _ (by omega)
            have w2 : IntKind.i64.wrap ((j : Int) + (m : Int) + 1) = (j : Int) + (m : Int) + 1 := IntWalk.i64_in _ (by omega)
            have w3 : IntKind.i64.wrap ((j : Int) + (m : Int) + 1 - ((i : Int) + 1)) = (j : Int) + (m : Int) + 1 - ((i : Int) + 1) := IntWalk.i64_in _ (by omega)
            have w4 : IntKind.i64.wrap ((m : Int) + 1) = (m : Int) + 1 := IntWalk.i64_in _ (by omega)
            have hqi : ((j : Int) + (m : Int) + 1 - ((i : Int) + 1)).tmod (m + 1) = (q : Int) := by
              rw [Int.tmod_eq_emod_of_nonneg (by omega), hq, Int.natCast_emod, show ((j + m + 1 - (i + 1) : Nat) : Int) = (j : Int) + (m : Int) + 1 - ((i : Int) + 1) by omega, Int.natCast_add]
              rfl
            have hqi2 : ((j : Int) + (m : Int) + 1 - ((i : Int) + 1)).tmod M = (q : Int) := by rw [← hMi]; exact hqi
            have HQ := hide hq
            clear hq
            have hjl : j < (cnts m i).length := by rw [cnts_len, ← HM.out]; exact hlj
            have hql : q < (cnts m i).length := by rw [cnts_len, ← HM.out]; exact hqM
            have hjn : j < (rnL m (i + 1) (cnts m i) j).length := by rw [rnL_len, ← HM.out]; exact hlj
            obtain ⟨x, hx⟩ : ∃ x, x = (cnts m i).getD j 0 := ⟨_, rfl⟩
            obtain ⟨y, hy⟩ : ∃ y, y = (cnts m i).getD q 0 := ⟨_, rfl⟩
            have HCJ : ∀ W, IRow W g (cnts m i) → W.cell? ⟨g, j * 2 + 1, none⟩ = some (.string (mg x)) := fun W h => by rw [hx]; exact h.c1 hjl
            have HCQ : ∀ W, IRow W g (cnts m i) → W.cell? ⟨g, q * 2 + 1, none⟩ = some (.string (mg y)) := fun W h => by rw [hy]; exact h.c1 hql
            have hxb : Sml x := Sml.of64 (by rw [hx]; exact cnt_le64 (by omega))
            have hyb : Sml y := Sml.of64 (by rw [hy]; exact cnt_le64 (by omega))
            have HA := hide (fun W => r1Add_agg x y W hxb hyb)
            have hset := rnL_set (m := m) (p := i + 1) (c := cnts m i) (k := j) (by have := HM.out; omega)
            rw [← HQ.out, ← hx, ← hy] at hset
            have HST := hide hset
            have HX := hide hx
            have HY := hide hy
            clear hx hy hxb hyb hset
            have hj0 : (0 : Int) ≤ (j : Int) := by omega
            have hj1 : (j : Int) < (M : Int) := by omega
            have hq0 : (0 : Int) ≤ (q : Int) := by omega
            have hq1 : (q : Int) < (M : Int) := by omega
            have hjm : (j : Int) ≤ (m : Int) := by omega
            have hM0 : ((M : Int) == 0) = false := by rw [beq_eq_false_iff_ne]; omega
            have hMne : ¬ ((M : Int) = 0) := by omega
            have hmne : ¬ ((m : Int) + 1 = 0) := by omega
            have hMn : ¬ M = 0 := by omega
            have wM : IntKind.i64.wrap (M : Int) = (M : Int) := IntWalk.i64_in _ (by omega)
            have hgN' : g ≠ N := by omega
            have lN : N < N + 1 := Nat.lt_succ_self _
            have lg : g < N + 1 := by omega
            have hm0 : ((m : Int) + 1 == 0) = false := by rw [beq_eq_false_iff_ne]; omega
            have kg : IRow wr.drew g (cnts m i) := hg
            have e0 := kg.c0 hjl
            have e1 := HCJ _ kg
            have d0 := kg.c0 hql
            have d1 := HCQ _ kg
            go_wp2_with fail
            go_region_held3 (fun W => W.cell? ⟨g, j * 2, none⟩ = some (.bool false) ∧ W.cell? ⟨g, j * 2 + 1, none⟩ = some (.string (mg x)) ∧ W.cell? ⟨g, q * 2, none⟩ = some (.bool false) ∧ W.cell? ⟨g, q * 2 + 1, none⟩ = some (.string (mg y)))
              (first | with_reducible exact ⟨kg.c0 hjl, HCJ _ kg, kg.c0 hql, HCQ _ kg⟩ | with_reducible exact ⟨(kg.other hgN' _ _ _ _).c0 hjl, HCJ _ (kg.other hgN' _ _ _ _), (kg.other hgN' _ _ _ _).c0 hql, HCQ _ (kg.other hgN' _ _ _ _)⟩)
              (first
                | (go_at_call 54; refine (HA.out _).mono ?_; rintro e w5 ⟨rfl, hB6⟩; have hB7 : Below (N + 1) wr w5 := (Below.refl (N + 1) wr).drew.trans (hB6.mono hsq); replace kg := hg.below hB7 lg; have hn5 := hn.below hB7 lN; have y0 := hn5.c0 hjn; have y1 := hn5.c1 hjn; have z0 := hn5.free_ (j * 2); have z1 := hn5.free_ (j * 2 + 1)))
            all_goals (
              have hn6 := hn5.set_ hjn (x + y)
              rw [HST.out] at hn6
              have hg6 := kg.other hgN' (j * 2) (j * 2 + 1) (.bool false) (.string (mg (x + y)))
              have hC6 := (hC.below hB7 (by omega)).otherAt (show R ≠ N by omega) (j * 2) (j * 2 + 1) (.bool false) (.string (mg (x + y)))
              have hB8 : Below R w ((w5.setCell ⟨N, j * 2, none⟩ (.bool false)).setCell ⟨N, j * 2 + 1, none⟩ (.string (mg (x + y)))) := Below.pairAt (hB.trans (hB7.mono (by omega))) (by omega) _ _ _ _
              have hs8 := Nat.le_trans (Nat.le_trans hsq hB7.size) (Below.pairAt (Below.refl 0 w5) (Nat.zero_le N) (j * 2) (j * 2 + 1) (.bool false) (.string (mg (x + y)))).size
              generalize (w5.setCell ⟨N, j * 2, none⟩ (.bool false)).setCell ⟨N, j * 2 + 1, none⟩ (.string (mg (x + y))) = w6 at hn6 hg6 hC6 hB8 hs8 ⊢
              clear hB6 hB7 kg hn5 y0 y1 z0 z1 e0 e1 d0 d1 HCJ HCQ HA hn hg hC hB hsq hqi hqi2 w1 w2 w3 w4
              go_wp2
              go_roundw
              case rel => exact ⟨j + 1, by go_num, hlj, hn6, hg6, hC6, hB8, hs8⟩
              case measure => simp [intOf]; omega)
          · obtain rfl : j = M := by omega
            rw [HM.out, rnL_all] at hn
            have hjm : ¬ ((j : Int) ≤ (m : Int)) := by omega
            go_wp2
            go_roundw
            case rel => exact ⟨i + 1, N, by go_num, rfl, hlt, hn, hC, hB, by omega⟩
            case measure => simp [intOf]; omega
      · obtain rfl : i = m := by omega
        have q0 := hRw.c0 (k := k) (by rw [cnts_len]; omega)
        have q1 := hRw.c1 (k := k) (by rw [cnts_len]; omega)
        have r0 := hC.c0
        have r1 := hC.c1
        have z0 := hC.z0
        have z1 := hC.z1
        have hkM : (k : Int) < (M : Int) := by omega
        have hk0 : (0 : Int) ≤ (k : Int) := by omega
        have hil : ¬ ((i : Int) + 1 ≤ (i : Int)) := by omega
        have HSZ := hide (show sizeN (i : Int) (k : Int) = (cnts i i).getD k 0 by unfold sizeN; rw [if_neg (fun h => h HT.out)]; simp)
        go_wp2
        refine bodyPost_ret (ret_intE rfl _ _ R _ rfl (hC.set_ _ _) rfl) rfl ?_
        exact ⟨by rw [HSZ.out, HT.out]; rfl, Below.pair hB (Nat.le_refl _) _ _⟩
  · have HR := hide (show sizeN n a = 0 by unfold sizeN; rw [if_pos ht])
    have HT := hide (show tck n a = 2 by unfold tck at ht ⊢; split at ht <;> simp_all)
    have HI := hide (fun W => inside_f n a W ht)
    clear ht
    go_enter Try.func28, Try.ntmps28
    go_wp2_with (go_at_call 43; refine (HI.out _).mono ?_; rintro e w' ⟨rfl, rfl⟩)
    refine bodyPost_ret (ret_intE rfl _ _ w.heap.size _ rfl c1 rfl) rfl ?_
    exact ⟨by rw [HR.out, HT.out, mg_zero]; rfl, hB0⟩
end Go.Proofs.Ytijeogengbphdaa
