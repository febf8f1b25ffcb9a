import Derived.Test.YtpppbkdbpbpinaaGreatDoorG7
import Derived.Test.YtpppbkdbpbpinaaGreatDoorG3
set_option linter.unusedSimpArgs false
set_option linter.unusedVariables false
/- code.Check: its contract for any number of letters and any list of words. -/
set_option linter.unusedVariables false
namespace Go.Proofs.YtpppbkdbpbpinaaGreatDoor
open Go.RowKit
/-- a row of strings that lies -/
def RowT (w : World) (A : Option Addr) (xs : List ByteArray) : Prop := 0 < xs.length → ∃ b o, A = some ⟨b, o, none⟩ ∧ b < w.heap.size ∧ ∀ k (hk : k < xs.length), w.cell? ⟨b, o + k, none⟩ = some (.string xs[k])
theorem RowT.below {w w' : World} {A : Option Addr} {xs : List ByteArray} (h : RowT w A xs) (hB : Below w.heap.size w w') : RowT w' A xs := by
  intro h0
  obtain ⟨b, o, h1, h2, h3⟩ := h h0
  exact ⟨b, o, h1, Nat.lt_of_lt_of_le h2 hB.size, fun k hk => (hB.cell (p := ⟨b, o + k, none⟩) h2).trans (h3 k hk)⟩
set_option maxRecDepth 100000 in
set_option maxHeartbeats 4000000 in
theorem ccheck_any (q : Int) (xs : List ByteArray) (A : Option Addr) (c : Nat) (w : World) (hR : RowT w A xs) (hc : xs.length ≤ c) (hcm : c ≤ 9223372036854775807) :
    Calls Tryz.prog 82 #[.agg #[.int .i64 q, .slice A xs.length c]] w fun e w' => e = .returned (.int .i64 (cdk q xs)) ∧ Below w.heap.size w w' := by
  have HR := hide hR
  clear hR
  obtain ⟨R, hRR⟩ : ∃ R, cdk q xs = R := ⟨_, rfl⟩
  rw [hRR]
  by_cases hq0 : q < 2
  · have HV := hide (show R = 12 by rw [← hRR, cdk, if_pos (Or.inl hq0)])
    clear hRR
    go_enter Tryz.func82, Tryz.ntmps82
    go_wp2
    go_ret
    exact ⟨by rw [HV.out]; rfl, (Below.refl _ w).alloc (Nat.le_refl _) _⟩
  by_cases hq1 : 16 < q
  · have HV := hide (show R = 12 by rw [← hRR, cdk, if_pos (Or.inr hq1)])
    clear hRR
    go_enter Tryz.func82, Tryz.ntmps82
    go_wp2
    go_ret
    exact ⟨by rw [HV.out]; rfl, (Below.refl _ w).alloc (Nat.le_refl _) _⟩
  by_cases hz : xs.length = 0
  · have HV := hide (show R = 5 by rw [← hRR, cdk, if_neg (by omega), if_pos hz])
    have hz2 : ((xs.length : Int) == 0) = true := by simp [hz]
    clear hRR
    go_enter Tryz.func82, Tryz.ntmps82
    go_wp2
    go_ret
    exact ⟨by rw [HV.out]; rfl, (Below.refl _ w).alloc (Nat.le_refl _) _⟩
  have hz2 : ((xs.length : Int) == 0) = false := by rw [beq_eq_false_iff_ne]; omega
  by_cases hm : 64 < xs.length
  · have HV := hide (show R = 4 by rw [← hRR, cdk, if_neg (by omega), if_neg hz, if_pos hm])
    have hm2 : decide ((64 : Int) < (xs.length : Int)) = true := decide_eq_true (by omega)
    clear hRR
    go_enter Tryz.func82, Tryz.ntmps82
    go_wp2
    go_ret
    exact ⟨by rw [HV.out]; rfl, (Below.refl _ w).alloc (Nat.le_refl _) _⟩
  have hm2 : decide ((64 : Int) < (xs.length : Int)) = false := decide_eq_false (by omega)
  have hlen : xs.length ≤ 64 := by omega
  have HRR := hide (show R = cdl q (prv xs 0) (xs.drop 0) by rw [← hRR, cdk, if_neg (by omega), if_neg hz, if_neg hm]; rfl)
  clear hRR hm
  obtain ⟨B, hB⟩ : ∃ B, w.heap.size = B := ⟨_, rfl⟩
  have hg0 := heap_alloc_new w (Obj.cells #[.int .i64 q, .slice A xs.length c] 34)
  rw [hB] at hg0
  have HG0 := hide hg0
  have HB0 := hide ((Below.refl B w).alloc (Nat.le_of_eq hB.symm) (Obj.cells #[.int .i64 q, .slice A xs.length c] 34))
  clear hg0
  go_enter Tryz.func82, Tryz.ntmps82
  go_wp2
  go_loopg [27] xs.length (fun gk iv wr => ∃ k : Nat, gk = xs.length - k ∧ iv = .int .i64 k ∧ k ≤ xs.length ∧ Hid (R = cdl q (prv xs k) (xs.drop k)) ∧ Hid (wr.heap[B]? = some (.cells #[.int .i64 q, .slice A xs.length c] 34 (0, 0))) ∧ Below B w wr)
  case atStart => exact ⟨0, rfl, rfl, Nat.zero_le _, HRR, HG0, HB0.out⟩
  case round =>
    obtain ⟨k, hgk, rfl, hk, HK, HG, hBw⟩ := hrel
    by_cases hlt : k < xs.length
    · obtain ⟨b, o, rfl, hb, hcell⟩ := (HR.out.below (by rw [hB]; exact hBw)) (by omega)
      have c1 := hcell k hlt
      have p0 := cell_of_row wr B 0 _ _ _ HG.out
      have p1 := cell_of_row wr B 1 _ _ _ HG.out
      have HP := hide (fun (h : 0 < k) => hcell (k - 1) (by omega))
      simp at p0 p1
      obtain ⟨x, hx⟩ : ∃ x, x = xs[k] := ⟨_, rfl⟩
      rw [← hx] at c1
      have hk0 : (0 : Int) ≤ (k : Int) := by omega
      have hk1 : (k : Int) < (xs.length : Int) := by omega
      have HX := hide hx
      have HBB := hide hBw
      clear hcell hx hBw
      by_cases h0 : x.size = 0
      · have he : x.toList.isEmpty = true := by rw [Lib.toList_data, List.isEmpty_iff_length_eq_zero, Array.length_toList]; exact h0
        have HV := hide (show R = 5 by rw [HK.out, cdl_five hlt (by rw [← HX.out]; exact h0)])
        clear h0
        go_wp2
        go_ret
        exact ⟨by rw [HV.out]; rfl, by rw [hB]; exact HBB.out⟩
      have hx0 : x.toList.isEmpty = false := by
        rw [Lib.toList_data, List.isEmpty_eq_false_iff]
        intro h
        exact h0 (by simpa using congrArg List.length h)
      by_cases h1 : 32 < x.size
      · have HV := hide (show R = 4 by rw [HK.out, cdl_four hlt (by rw [← HX.out]; exact h1)])
        have h32 : decide ((32 : Int) < (x.size : Int)) = true := decide_eq_true (by omega)
        clear h0 h1
        go_wp2
        go_ret
        exact ⟨by rw [HV.out]; rfl, by rw [hB]; exact HBB.out⟩
      have h32 : decide ((32 : Int) < (x.size : Int)) = false := decide_eq_false (by omega)
      have HW := hide (fun W => wcheck_any q x W)
      by_cases h2 : chk q x.data.toList = 0
      · have hn : (chk q x.data.toList != 0) = false := by rw [bne_eq_false_iff_eq]; exact h2
        have HS := hide (fun h3 => cdl_step (q := q) hlt (by rw [← HX.out]; exact h0) (by rw [← HX.out]; exact h1) (by rw [← HX.out]; exact h2) h3)
        have HT := hide (fun h3 => cdl_ten (q := q) hlt (by rw [← HX.out]; exact h0) (by rw [← HX.out]; exact h1) (by rw [← HX.out]; exact h2) h3)
        generalize chk q x.data.toList = z at HW hn h2
        clear h1
        by_cases hkz : k = 0
        · have HN := hide (show R = cdl q (prv xs (k + 1)) (xs.drop (k + 1)) by rw [HK.out, HS.out (by rw [← HX.out]; subst hkz; exact prv_zero h0)])
          have hkp : ¬ (0 : Int) < (k : Int) := by omega
          clear h0 h2 hkz
          go_wp2_with (go_at_call 160; refine (HW.out _).mono ?_; rintro e w' ⟨rfl, n, rfl⟩)
          go_roundg (xs.length - (k + 1))
          case measure => omega
          case rel => exact ⟨k + 1, rfl, by go_num, hlt, HN, HG, belowN HBB.out n⟩
        · have c0 := HP.out (by omega)
          obtain ⟨y, hy⟩ : ∃ y, y = xs[k - 1] := ⟨_, rfl⟩
          rw [← hy] at c0
          have hp : prv xs k = y.data.toList := by
            have := prv_succ (xs := xs) (k := k - 1) (by omega)
            rw [show k - 1 + 1 = k by omega, ← hy] at this
            exact this
          have HBF := hide (fun W => cdBefore_any y x W)
          rw [← HX.out, hp] at HS HT
          rw [hp] at HK
          clear hp hy h0 h2
          have hkp : decide ((0 : Int) < (k : Int)) = true := decide_eq_true (by omega)
          by_cases h3 : 0 ≤ cmpW y.data.toList x.data.toList
          · have HV := hide (show R = 10 by rw [HK.out]; exact HT.out h3)
            generalize cmpW y.data.toList x.data.toList = r at HBF h3
            go_wp2_with (first | (go_at_call 160; refine (HW.out _).mono ?_; rintro e w' ⟨rfl, n, rfl⟩) | (go_at_call 161; refine (HBF.out _).mono ?_; rintro e w' ⟨rfl, rfl⟩))
            go_ret
            exact ⟨by rw [HV.out]; rfl, by rw [hB]; exact (belowN HBB.out n).alloc (by have := HBB.out.size; simp; omega) _⟩
          · have h4 : cmpW y.data.toList x.data.toList < 0 := by omega
            have HN := hide (show R = cdl q (prv xs (k + 1)) (xs.drop (k + 1)) by rw [HK.out]; exact HS.out h4)
            have h5 : decide ((0 : Int) ≤ cmpW y.data.toList x.data.toList) = false := decide_eq_false h3
            generalize cmpW y.data.toList x.data.toList = r at HBF h3 h4 h5
            clear h3 h4
            go_wp2_with (first | (go_at_call 160; refine (HW.out _).mono ?_; rintro e w' ⟨rfl, n, rfl⟩) | (go_at_call 161; refine (HBF.out _).mono ?_; rintro e w' ⟨rfl, rfl⟩))
            have hBl : B < wr.heap.size := by
              rcases Nat.lt_or_ge B wr.heap.size with h | h
              · exact h
              · have := HG.out; rw [Array.getElem?_eq_none h] at this; cases this
            go_roundg (xs.length - (k + 1))
            case measure => omega
            case rel =>
              refine ⟨k + 1, rfl, by go_num, hlt, HN, ?_, (belowN HBB.out n).alloc (by have := HBB.out.size; simp; omega) _⟩
              refine hide ?_
              rw [heap_alloc_old _ _ (by simpa using hBl)]
              exact HG.out
      · have hn : (chk q x.data.toList != 0) = true := by rw [bne_iff_ne]; exact h2
        have HV := hide (show R = 13 by rw [HK.out, cdl_word hlt (by rw [← HX.out]; exact h0) (by rw [← HX.out]; exact h1) (by rw [← HX.out]; exact h2)])
        generalize chk q x.data.toList = z at HW hn h2
        clear h0 h1 h2
        go_wp2_with (go_at_call 160; refine (HW.out _).mono ?_; rintro e w' ⟨rfl, n, rfl⟩)
        go_ret
        exact ⟨by rw [HV.out]; rfl, by rw [hB]; exact belowN HBB.out n⟩
    · obtain rfl : k = xs.length := by omega
      have HV := hide (show R = 0 by rw [HK.out, List.drop_length]; unfold cdl; rfl)
      go_wp2
      go_ret
      exact ⟨by rw [HV.out]; rfl, by rw [hB]; exact hBw⟩
end Go.Proofs.YtpppbkdbpbpinaaGreatDoor
