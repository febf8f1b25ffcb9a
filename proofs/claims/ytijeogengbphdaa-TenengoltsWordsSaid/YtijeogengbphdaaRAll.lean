/- Contracts of grooveref07.All for two letters (up to 12 letters a word), grooveref48.Words. -/
import Derived.Test.YtijeogengbphdaaAll
import Derived.Deep.RegionHeld3
set_option linter.unusedVariables false
namespace Go.Proofs.Ytijeogengbphdaa
open Go.RowKit
theorem Strs.mono {w : World} {B B' : Nat} {v : Value} {xs : List ByteArray} (h : Strs w B v xs) (hb : B' ≤ B) : Strs w B' v xs := by
  unfold Strs World.ownsRow at h ⊢
  refine ⟨h.1, ?_⟩
  rcases h.2 with h' | ⟨g, cap, cur, h1, h2, h3⟩
  · exact .inl h'
  · exact .inr ⟨g, cap, cur, h1, Nat.le_trans hb h2, h3⟩
set_option maxRecDepth 100000 in
set_option maxHeartbeats 4000000 in
theorem rAll_any (n : Nat) (hn : n ≤ 12) (w : World) :
    Calls Try.prog 51 #[.int .i64 2, .int .i64 (n : Int)] w fun e w' => ∃ v, e = .returned (.tuple #[v, .int .i64 0]) ∧ Strs w' w.heap.size v (allB n) ∧ Below w.heap.size w w' := by
  have d1 : decide ((n : Int) < 0) = false := decide_eq_false (by omega)
  have d2 : decide ((65536 : Int) < (n : Int)) = false := decide_eq_false (by omega)
  go_enter Try.func51, Try.ntmps51
  go_wp2
  go_loopw [6, 7] (fun v i wr => ∃ k : Nat, k ≤ n ∧ i = .int .i64 k ∧ Strs wr w.heap.size v (allB k) ∧ Below w.heap.size w wr) (fun _ i _ => n - (intOf i).toNat)
  case atStart => exact ⟨0, Nat.zero_le _, rfl, Strs.one_ rfl (Nat.le_refl _) _, (Below.refl _ _).alloc (Nat.le_refl _) _⟩
  case round =>
    obtain ⟨k, hk, rfl, hown, hB⟩ := hrel
    by_cases hlt : k < n
    · have hl := len_allB k
      have hp := pow_bound (show k + 1 ≤ 12 by omega)
      rw [Nat.pow_succ] at hp
      have HD := hide (show allB (k + 1) = (allB k).flatMap fun w => [put w 0, put w 1] from rfl)
      have HZ := hide (size_allB k)
      obtain ⟨L, hL⟩ : ∃ L, L = allB k := ⟨_, rfl⟩
      rw [← hL] at hown hl HD HZ
      rw [← hl] at hp
      have hLp : 0 < L.length := by rw [hl]; exact Nat.pos_of_ne_zero (by simp)
      clear hL hl
      obtain ⟨g, cap, hv, hg1, hg2⟩ := hown.form hLp
      subst hv
      have hBs := hB.size
      have hd4 : decide ((4096 : Int) < (L.length : Int) * 2) = false := decide_eq_false (by omega)
      obtain ⟨N, hN⟩ : ∃ N, wr.heap.size = N := ⟨_, rfl⟩
      have hown1 := hown.alloc (Obj.cells #[] 9)
      have hB1 := hB.alloc hBs (Obj.cells #[] 9)
      have hnew : Strs (wr.alloc (Obj.cells #[] 9)) N (.slice (some ⟨N, 0, none⟩) 0 0) (stepB L 0) := Strs.empty_ hN (Nat.le_refl _)
      have hsz1 : (wr.alloc (Obj.cells #[] 9)).heap.size = N + 1 := by simp [hN]
      clear hown hB
      go_wp2
      generalize wr.alloc (Obj.cells #[] 9) = W1 at hown1 hB1 hnew hsz1 ⊢
      go_loopw [8, 9] (fun v i wv => ∃ j : Nat, j ≤ L.length ∧ i = .int .i64 j ∧ Strs wv N v (stepB L j) ∧ Below N W1 wv) (fun _ i _ => L.length - (intOf i).toNat)
      case atStart => exact ⟨0, Nat.zero_le _, rfl, hnew, Below.refl _ _⟩
      case round =>
        obtain ⟨j, hj, rfl, hv, hBv⟩ := hrel
        clear hnew
        by_cases hjt : j < L.length
        · have hcell := hown1.cell hjt
          have HS := hide (stepB_succ L j hjt)
          have HLS := hide (len_stepB L j hj)
          have hz := HZ.out L[j] (List.getElem_mem hjt)
          obtain ⟨u, hu⟩ : ∃ u, u = L[j] := ⟨_, rfl⟩
          rw [← hu] at hcell HS hz
          have HU := hide hu
          clear hu
          have hu1 : u.size ≤ 12 := by omega
          have lg : g < N := by omega
          have hj0 : (0 : Int) ≤ (j : Int) := by omega
          have hj1 : (j : Int) < (L.length : Int) := by omega
          have hBvs : N ≤ wr.heap.size := Nat.le_trans (by omega) hBv.size
          clear hz
          go_wp2_with fail
          refine wp_loop_rounds 3 ?_
          rw [rounds_succ]
          have q1 : IntKind.i64.wrap 1 = 1 := by decide
          have q2 : IntKind.i64.wrap 2 = 2 := by decide
          have q3 : IntKind.i64.wrap (1 + 1) = 2 := by decide
          have hv1 := hv.drew
          have hA1 := hBv.drew
          have hD1 : N ≤ wr.drew.heap.size := hBvs
          have qa : ¬ 9223372036854775807 < u.size + 1 := by omega
          go_wp2_with fail
          go_region_held3 (fun W => W.cell? ⟨g, j, none⟩ = some (.string u)) (first | with_reducible exact (hA1.cell (p := ⟨g, j, none⟩) lg).trans hcell | with_reducible exact ((hBv.alloc hBvs _).drew.cell (p := ⟨g, j, none⟩) lg).trans hcell | with_reducible exact (hC1.cell (p := ⟨g, j, none⟩) lg).trans hcell | fail) ((refine step_app_strs (by rfl) _ _ (by rfl) N _ _ (by rfl) (hv.alloc _).drew wr.heap.size 1 [put u 0] (by rfl) (by rfl) (heap_alloc_new wr _) (by rw [HLS.out]; omega) (by simp; omega) ?_; intro v1 w1 how1 hg1; have hC1 := (hBv.alloc hBvs _).drew.grown hg1 (by simp; omega) (fun _ hk => (World.ownsRow.lt hv1 _ hk).1)))
          have hs1 : N ≤ w1.heap.size := Nat.le_trans (by omega) hC1.size
          have hlen1 : (stepB L j ++ [put u 0]).length ≤ 4097 := by rw [List.length_append, HLS.out]; simp; omega
          clear hv1 hA1 hg1 hv hBv
          go_wp2_with fail
          rw [rounds_succ]
          have hv2 := how1.drew
          have hA2 := hC1.drew
          have hD2 : N ≤ w1.drew.heap.size := hs1
          go_wp2_with fail
          go_region_held3 (fun W => W.cell? ⟨g, j, none⟩ = some (.string u)) (first | with_reducible exact (hA2.cell (p := ⟨g, j, none⟩) lg).trans hcell | with_reducible exact ((hC1.alloc hs1 _).drew.cell (p := ⟨g, j, none⟩) lg).trans hcell | with_reducible exact (hC2.cell (p := ⟨g, j, none⟩) lg).trans hcell | fail) ((refine step_app_strs (by rfl) _ _ (by rfl) N _ _ (by rfl) (how1.alloc _).drew w1.heap.size 1 [put u 1] (by rfl) (by rfl) (heap_alloc_new w1 _) (by omega) (by simp; omega) ?_; intro v2 w2 how2 hg2; have hC2 := (hC1.alloc hs1 _).drew.grown hg2 (by simp; omega) (fun _ hk => (World.ownsRow.lt hv2 _ hk).1)))
          clear hv2 hA2 hg2 how1 hC1
          go_wp2_with fail
          rw [rounds_succ]
          go_wp2
          go_roundw
          case rel => exact ⟨j + 1, by omega, by go_num, by rw [HS.out]; simpa using how2, hC2⟩
          case measure => simp [intOf]; omega
        · obtain rfl : j = L.length := by omega
          rw [stepB_all, ← HD.out] at hv
          go_wp2
          go_roundw
          case rel => exact ⟨k + 1, by omega, by go_num, hv.mono (by omega), hB1.trans (hBv.mono (by omega))⟩
          case measure => simp [intOf]; omega
    · obtain rfl : k = n := by omega
      go_wp2
      go_ret2
      exact ⟨_, rfl, hown, hB⟩
set_option maxRecDepth 100000 in
set_option maxHeartbeats 4000000 in
theorem rWords_any (n a : Int) (w : World) :
    Calls Try.prog 26 #[.int .i64 n, .int .i64 a] w fun e w' => ∃ v, e = .returned (.tuple #[v, .int .i64 (words n a).2]) ∧ Strs w' w.heap.size v (words n a).1 ∧ Below w.heap.size w w' := by
  by_cases ht : tck n a = 0
  · have hb := tck_bounds' ht
    have HI := hide (fun W => inside_t n a W ht)
    obtain ⟨m, rfl⟩ := Int.eq_ofNat_of_zero_le hb.1
    by_cases hm : 12 < (m : Int)
    · have HR := hide (show words (m : Int) a = ([], 4) by unfold words; rw [if_neg (by simp [ht]), if_pos hm])
      have hd : decide ((12 : Int) < (m : Int)) = true := decide_eq_true hm
      clear ht
      go_enter Try.func26, Try.ntmps26
      go_wp2_with (go_at_call 43; refine (HI.out _).mono ?_; rintro e w' ⟨rfl, rfl⟩)
      go_ret2
      rw [HR.out]
      exact ⟨_, rfl, Strs.nil_ _ _, Below.refl _ _⟩
    · have hm12 : m ≤ 12 := by omega
      have hd : decide ((12 : Int) < (m : Int)) = false := decide_eq_false hm
      have HR := hide (show words (m : Int) a = (wordsL m a (allB m).length, 0) by
        unfold words wordsL; rw [if_neg (by simp [ht]), if_neg hm, List.take_length]; rfl)
      have hp := pow_bound hm12
      rw [← len_allB] at hp
      have hpos : 0 < (allB m).length := by rw [len_allB]; exact Nat.pos_of_ne_zero (by simp)
      have HZ := hide (size_allB m)
      have HAll := hide (fun W => rAll_any m hm12 W)
      clear ht hm
      go_enter Try.func26, Try.ntmps26
      go_wp2_with fail
      refine (HI.out _).mono ?_
      rintro e w' ⟨rfl, rfl⟩
      go_wp2_with fail
      refine (HAll.out _).mono ?_
      rintro e W1 ⟨v, rfl, hrow, hB⟩
      obtain ⟨g, cap, hv, hg1, hg2⟩ := hrow.form hpos
      subst hv
      obtain ⟨L, hL⟩ : ∃ L, L = allB m := ⟨_, rfl⟩
      rw [← hL] at HR hp hpos HZ hrow ⊢
      have HLL := hide hL
      clear hL
      have hBs := hB.size
      obtain ⟨N, hN⟩ : ∃ N, W1.heap.size = N := ⟨_, rfl⟩
      have hnew : Strs (W1.alloc (Obj.cells #[] 9)) N (.slice (some ⟨N, 0, none⟩) 0 0) (wordsL m a 0) := Strs.empty_ hN (Nat.le_refl _)
      have hsz1 : (W1.alloc (Obj.cells #[] 9)).heap.size = N + 1 := by simp [hN]
      have hB1 := hB.alloc hBs (Obj.cells #[] 9)
      have hrow1 := hrow.alloc (Obj.cells #[] 9)
      clear hB hrow
      go_wp2
      generalize W1.alloc (Obj.cells #[] 9) = W2 at hrow1 hB1 hnew hsz1 ⊢
      go_loopw [8, 9] (fun v i wv => ∃ j : Nat, j ≤ L.length ∧ i = .int .i64 j ∧ Strs wv N v (wordsL m a j) ∧ Below N W2 wv) (fun _ i _ => L.length - (intOf i).toNat)
      case atStart => exact ⟨0, Nat.zero_le _, rfl, hnew, Below.refl _ _⟩
      case round =>
        obtain ⟨j, hj, rfl, hv, hBv⟩ := hrel
        clear hnew
        by_cases hjt : j < L.length
        · have hcell := (hBv.cell (p := ⟨g, j, none⟩) (by show g < N; omega)).trans (hrow1.cell hjt)
          have HS := hide (by have := wordsL_succ m a j (by rw [← HLL.out]; exact hjt); simp only [← HLL.out] at this; exact this : wordsL m a (j + 1) = wordsL m a j ++ if ((synd L[j].data.toList : Nat) : Int) == a then [L[j]] else [])
          have hll := wordsL_len m a j
          have hz : L[j].size ≤ 70000 := by have := HZ.out L[j] (List.getElem_mem hjt); omega
          obtain ⟨u, hu⟩ : ∃ u, u = L[j] := ⟨_, rfl⟩
          rw [← hu] at hcell HS hz
          clear hu
          have hBvs : N ≤ wr.heap.size := Nat.le_trans (by omega) hBv.size
          have HSY := hide (fun W => rsynd_any u W hz)
          by_cases hy : ((synd u.data.toList : Nat) : Int) = a
          · have hyb : (((synd u.data.toList : Nat) : Int) == a) = true := by simpa using hy
            have HS2 := hide (by have := HS.out; rw [hyb] at this; simpa using this : wordsL m a (j + 1) = wordsL m a j ++ [u])
            clear hy HS
            have HLN := hide hll
            clear hll
            go_wp2_with (first
              | (go_at_call 45; refine (HSY.out _).mono ?_; rintro e w' ⟨rfl, rfl⟩)
              | (at_builtin; refine wpList_app_strs rfl (.tmp 35) (.tmp 40) rfl N _ _ rfl (hv.alloc _) wr.heap.size 1 [u] rfl rfl (heap_alloc_new wr _) (by have := HLN.out; omega) (by simp; omega) ?_; intro v1 w1 hv1 hg1))
            have hB3 := (hBv.alloc hBvs _).grown hg1 (by simp; omega) (fun _ hk => (World.ownsRow.lt hv _ hk).1)
            clear hv hg1 hBv hBvs
            go_roundw
            case rel => exact ⟨j + 1, by omega, by go_num, by rw [HS2.out]; exact hv1, hB3⟩
            case measure => simp [intOf]; omega
          · have hyb : (((synd u.data.toList : Nat) : Int) == a) = false := by simpa using hy
            have HS2 := hide (by have := HS.out; rw [hyb] at this; simpa using this : wordsL m a (j + 1) = wordsL m a j)
            clear hy HS
            go_wp2_with (go_at_call 45; refine (HSY.out _).mono ?_; rintro e w' ⟨rfl, rfl⟩)
            go_roundw
            case rel => exact ⟨j + 1, by omega, by go_num, by rw [HS2.out]; exact hv, hBv⟩
            case measure => simp [intOf]; omega
        · obtain rfl : j = L.length := by omega
          go_wp2
          go_ret2
          rw [HR.out]
          exact ⟨_, rfl, hv.mono (by omega), hB1.trans (hBv.mono (by omega))⟩
  · have HR := hide (show words n a = ([], 2) by unfold words; rw [if_pos ht])
    have HI := hide (fun W => inside_f n a W ht)
    clear ht
    go_enter Try.func26, Try.ntmps26
    go_wp2_with (go_at_call 43; refine (HI.out _).mono ?_; rintro e w' ⟨rfl, rfl⟩)
    go_ret2
    rw [HR.out]
    exact ⟨_, rfl, Strs.nil_ _ _, Below.refl _ _⟩
end Go.Proofs.Ytijeogengbphdaa
