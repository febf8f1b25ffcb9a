/- Contract of grooveref48.Decode: any number and any string. -/
import Derived.Test.YtijeogengbphdaaDec
set_option linter.unusedVariables false
namespace Go.Proofs.Ytijeogengbphdaa
open Go.RowKit
theorem corr_ok (n a : Int) (s : ByteArray) (h : (corr n a s).2 = 0) : 0 ≤ n ∧ n ≤ 64 ∧ ((corr n a s).1.size : Int) = n := by
  rcases corr_cases n a s with h1 | ⟨ht, _, hl, u, hu, h1, _⟩
  · exact absurd h h1.2
  · have := tck_bounds ht
    exact ⟨by omega, by omega, by rw [h1]; exact size_cands hl hu⟩
set_option maxRecDepth 100000 in
set_option maxHeartbeats 1000000 in
theorem rdec_any (n : Int) (s : ByteArray) (w : World) :
    Calls Try.prog 21 #[.int .i64 n, .string s] w fun e w' => e = .returned (.tuple #[.string ⟨(dec n s).1.toArray⟩, .int .i64 (dec n s).2]) ∧ Below w.heap.size w w' := by
  by_cases h : (corr n 0 s).2 = 0
  · have HR := hide (show dec n s = (decK (corr n 0 s).1.data.toList (corr n 0 s).1.size, 0) by unfold dec; rw [if_neg (by simp [h])])
    have T1 := fun W => rcor_any n 0 s W
    rw [h] at T1
    obtain ⟨h0, h64, hz⟩ := corr_ok n 0 s h
    obtain ⟨u, hu⟩ : ∃ u, u = (corr n 0 s).1 := ⟨_, rfl⟩
    rw [← hu] at T1 HR hz
    subst hz
    have H1 := hide T1
    clear T1 h hu
    go_enter Try.func21, Try.ntmps21
    go_wp2_with (go_at_call 13; refine (H1.out _).mono ?_; rintro e w1 ⟨rfl, hB⟩)
    go_loop [8, 9] (fun v i => ∃ (k : Nat) (fb : ByteArray), k ≤ u.size ∧ i = .int .i64 ((k : Int) + 1) ∧ v = .string fb ∧ Hid (fb.data.toList = decK u.data.toList k) ∧ fb.size ≤ k) (fun _ i => u.size + 1 - (intOf i).toNat)
    case atStart => exact ⟨0, ⟨#[]⟩, Nat.zero_le _, rfl, rfl, hide rfl, Nat.le_refl _⟩
    case round =>
      obtain ⟨k, fb, hk, rfl, rfl, hf, hfz⟩ := hrel
      by_cases hlt : k < u.size
      · have e1 : ((k + 1 : Nat) : Int) = (k : Int) + 1 := by omega
        cases hp : isPow (k + 1)
        · have hf2 := fun w => rpow_val (k + 1) (by omega) (by omega) false hp w
          rw [e1] at hf2
          have HF := hide hf2
          have HS := hide (show decK u.data.toList (k + 1) = decK u.data.toList k ++ [u.data.toList.getD k 0] by
            show decK u.data.toList k ++ _ = _
            rw [hp]; simp)
          have hj0 : (0 : Int) ≤ (k : Int) := by omega
          have hj1 : (k : Int) + 1 ≤ (u.size : Int) := by omega
          have hj2 : (k : Int) ≤ (k : Int) + 1 := by omega
          clear hf2 hp e1
          go_wp2_with (go_at_call 47; refine (HF.out _).mono ?_; rintro e w' ⟨rfl, rfl⟩)
          go_round
          case rel =>
            refine ⟨k + 1, fb ++ u.extract k (k + 1), by omega, by go_num, rfl, hide ?_, ?_⟩
            · rw [app_data, hf.out, one_data u k hlt, HS.out]
            · rw [ByteArray.size_append]; simp; omega
          case measure => simp [intOf]; omega
        · have hf2 := fun w => rpow_val (k + 1) (by omega) (by omega) true hp w
          rw [e1] at hf2
          have HF := hide hf2
          have HS := hide (show decK u.data.toList (k + 1) = decK u.data.toList k by
            show decK u.data.toList k ++ _ = _
            rw [hp]; simp)
          clear hf2 hp e1
          go_wp2_with (go_at_call 47; refine (HF.out _).mono ?_; rintro e w' ⟨rfl, rfl⟩)
          go_round
          case rel => exact ⟨k + 1, fb, by omega, by go_num, rfl, hide (by rw [hf.out, HS.out]), by omega⟩
          case measure => simp [intOf]; omega
      · obtain rfl : k = u.size := by omega
        have HO := hide (show fb = ⟨(decK u.data.toList u.size).toArray⟩ by
          apply ByteArray.ext; apply Array.toList_inj.1; rw [hf.out])
        go_wp2
        go_ret2
        exact ⟨by rw [HR.out, ← HO.out]; rfl, hB⟩
  · have HR := hide (show dec n s = ([], (corr n 0 s).2) by unfold dec; rw [if_pos h])
    have T1 := fun W => rcor_any n 0 s W
    have hu := corr_err n 0 s h
    rw [hu] at T1
    obtain ⟨c, hc⟩ : ∃ c, c = (corr n 0 s).2 := ⟨_, rfl⟩
    rw [← hc] at T1 HR h
    have hcb : (c != 0) = true := by simpa using h
    have H1 := hide T1
    clear T1 hc hu h
    go_enter Try.func21, Try.ntmps21
    go_wp2_with (go_at_call 13; refine (H1.out _).mono ?_; rintro e w1 ⟨rfl, hB⟩)
    go_ret2
    exact ⟨by rw [HR.out]; rfl, hB⟩
end Go.Proofs.Ytijeogengbphdaa
