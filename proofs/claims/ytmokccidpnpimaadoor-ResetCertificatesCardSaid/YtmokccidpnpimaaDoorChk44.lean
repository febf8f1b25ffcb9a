/- reset.Check: its contract. -/
import Derived.Test.YtmokccidpnpimaaDoorChkR
set_option linter.unusedVariables false
namespace Go.Proofs.YtmokccidpnpimaaDoor
open Go.RowKit
def badB (n : Nat) (t : Int) : Bool := decide (t < 0) || decide ((n : Int) ≤ t)
set_option maxRecDepth 100000 in
theorem zCheckf_any (n : Nat) (z : Int) (A : Option Addr) (c B : Nat) (w : World) (h : w.cell? ⟨B, 1, none⟩ = some (.slice A n c)) :
    Calls Tryd.prog 54 #[.int .i64 z, .pointer (some ⟨B, 0, none⟩)] w fun e w' => e = .returned (.bool (badB n z)) ∧ w = w' := by
  by_cases h0 : z < 0
  · have d : decide (z < 0) = true := decide_eq_true h0
    have e : badB n z = true := by unfold badB; rw [d]; rfl
    rw [e]
    clear h0 e
    go_enter Tryd.func54, Tryd.ntmps54
    go_wp2
    go_ret
    exact ⟨rfl, rfl⟩
  · have d : decide (z < 0) = false := decide_eq_false h0
    have e : badB n z = decide ((n : Int) ≤ z) := by unfold badB; rw [d]; rfl
    rw [e]
    clear h0 e
    go_enter Tryd.func54, Tryd.ntmps54
    go_wp2
    go_ret
    exact ⟨rfl, rfl⟩
set_option maxRecDepth 100000 in
set_option maxHeartbeats 1000000 in
theorem ifI_any (n : Nat) (r : List Int) (D A : Option Addr) (cD c B : Nat) (w : World) (hr : RowI w D r) (hb : r.length ≤ 8) (h : w.cell? ⟨B, 1, none⟩ = some (.slice A n c)) :
    Calls Tryd.prog 69 #[.slice D r.length cD, .func (.func 54) #[] #[.pointer (some ⟨B, 0, none⟩)]] w fun e w' => (∃ z : Int, e = .returned (.int .i64 z) ∧ decide (0 ≤ z) = r.any (badB n)) ∧ w = w' := by
  have HR := hide hr
  have HF := hide (fun z => zCheckf_any n z A c B w h)
  clear hr h
  go_enter Tryd.func69, Tryd.ntmps69
  go_wp2
  go_loopw [8] (fun iv wr => ∃ i : Nat, iv = .int .i64 i ∧ i ≤ r.length ∧ Hid (∀ j (hj : j < r.length), j < i → badB n r[j] = false) ∧ wr = w) (fun iv _ => r.length - (intOf iv).toNat)
  case atStart => exact ⟨0, rfl, Nat.zero_le _, hide fun j _ h => absurd h (by omega), rfl⟩
  case round =>
    obtain ⟨i, rfl, hi, hJ, rfl⟩ := hrel
    by_cases hlt : i < r.length
    · obtain ⟨b, o, rfl, hbl, hcell⟩ := HR.out (by omega)
      have hc := hcell i hlt
      obtain ⟨z, hz⟩ : ∃ z, z = r[i] := ⟨_, rfl⟩
      rw [← hz] at hc
      have HZ := hide hz
      have HC := hide hcell
      have hi0 : (0 : Int) ≤ (i : Int) := by omega
      have hi1 : (i : Int) < (r.length : Int) := by omega
      clear hz hcell
      cases hbad : badB n z with
      | true =>
        have HF2 := HF.out z
        rw [hbad] at HF2
        have HA := hide (show r.any (badB n) = true by
          rw [List.any_eq_true]
          exact ⟨r[i], List.getElem_mem _, by rw [← HZ.out]; exact hbad⟩)
        have HF3 := hide HF2
        clear hbad HF2
        go_wp2_with (go_at_call 54; refine HF3.out.mono ?_; rintro e w' ⟨rfl, rfl⟩)
        go_ret
        exact ⟨⟨_, rfl, by rw [HA.out]; exact decide_eq_true hi0⟩, rfl⟩
      | false =>
        have HF2 := HF.out z
        rw [hbad] at HF2
        have HJ2 := hide (show ∀ j (hj : j < r.length), j < i + 1 → badB n r[j] = false from fun j hj hji => by
          rcases Nat.lt_or_ge j i with h | h
          · exact hJ.out j hj h
          · obtain rfl : j = i := by omega
            rw [← HZ.out]; exact hbad)
        have HF3 := hide HF2
        clear hbad HF2 hJ
        go_wp2_with (go_at_call 54; refine HF3.out.mono ?_; rintro e w' ⟨rfl, rfl⟩)
        go_roundw
        case rel => exact ⟨i + 1, by go_num, hlt, HJ2, by first | exact trivial | rfl⟩
        case measure => simp [intOf]; omega
    · obtain rfl : i = r.length := by omega
      have HA := hide (show r.any (badB n) = false by
        rw [List.any_eq_false]
        intro x hx
        obtain ⟨j, hj, rfl⟩ := List.getElem_of_mem hx
        rw [hJ.out j hj hj]; decide)
      go_wp2
      go_ret
      exact ⟨⟨-1, rfl, by rw [HA.out]; decide⟩, rfl⟩
set_option maxRecDepth 100000 in
theorem cfI_any (n : Nat) (r : List Int) (D A : Option Addr) (cD c B : Nat) (w : World) (hr : RowI w D r) (hb : r.length ≤ 8) (h : w.cell? ⟨B, 1, none⟩ = some (.slice A n c)) :
    Calls Tryd.prog 53 #[.slice D r.length cD, .func (.func 54) #[] #[.pointer (some ⟨B, 0, none⟩)]] w fun e w' => e = .returned (.bool (r.any (badB n))) ∧ w = w' := by
  have HI := hide (ifI_any n r D A cD c B w hr hb h)
  clear hr h
  go_enter Tryd.func53, Tryd.ntmps53
  go_wp2_with fail
  refine HI.out.mono ?_
  rintro e w1 ⟨⟨z, rfl, hz⟩, rfl⟩
  have HZ := hide hz
  clear hz
  go_wp2
  go_ret
  exact ⟨by rw [← HZ.out]; rfl, rfl⟩
theorem chkRow_bad {n L : Nat} {r : List Int} (h : r.length = L) (hb : r.any (badB n) = true) : chkRow n L r = 25 := by
  unfold chkRow; rw [if_neg (by simp [h])]; exact if_pos hb
theorem chkRow_good {n L : Nat} {r : List Int} (h : r.length = L) (hb : r.any (badB n) = false) : chkRow n L r = 0 := by
  unfold chkRow; rw [if_neg (by simp [h])]; exact if_neg (by rw [show (fun t => decide (t < 0) || decide ((n : Int) ≤ t)) = badB n from rfl, hb]; decide)
set_option maxRecDepth 100000 in
set_option maxHeartbeats 4000000 in
theorem zCheck_any (L : Int) (rows : List (List Int)) (A : Option Addr) (c : Nat) (w : World) (hR : RowD w A rows) (hb : rows.length ≤ 9223372036854775807) :
    Calls Tryd.prog 29 #[.agg #[.int .i64 L, .slice A rows.length c]] w fun e w' => e = .returned (.int .i64 (chkA L rows)) ∧ Below w.heap.size w w' := by
  have hB0 : Below w.heap.size w (w.alloc (Obj.cells #[.int .i64 L, .slice A rows.length c] 24)) := (Below.refl _ w).alloc (Nat.le_refl _) _
  by_cases hL : L < 1 ∨ 8 < L
  · have HC := hide (chkA_bad (rows := rows) hL)
    by_cases h1 : L < 1
    · have d1 : decide (L < 1) = true := decide_eq_true h1
      go_enter Tryd.func29, Tryd.ntmps29
      go_wp2
      go_ret
      exact ⟨by rw [HC.out]; rfl, hB0⟩
    · have d1 : decide (L < 1) = false := decide_eq_false h1
      have d2 : decide (8 < L) = true := decide_eq_true (by omega)
      go_enter Tryd.func29, Tryd.ntmps29
      go_wp2
      go_ret
      exact ⟨by rw [HC.out]; rfl, hB0⟩
  · have d1 : decide (L < 1) = false := decide_eq_false (by omega)
    have d2 : decide (8 < L) = false := decide_eq_false (by omega)
    by_cases h0 : rows.length = 0
    · have HC := hide (chkA_empty hL h0)
      have hz : ((rows.length : Int) == 0) = true := by rw [h0]; rfl
      clear h0
      go_enter Tryd.func29, Tryd.ntmps29
      go_wp2
      go_ret
      exact ⟨by rw [HC.out]; rfl, hB0⟩
    · have hz : ((rows.length : Int) == 0) = false := by rw [beq_eq_false_iff_ne]; omega
      by_cases h16 : 16 < rows.length
      · have HC := hide (chkA_many hL h16)
        have d3 : decide ((16 : Int) < (rows.length : Int)) = true := decide_eq_true (by omega)
        go_enter Tryd.func29, Tryd.ntmps29
        go_wp2
        go_ret
        exact ⟨by rw [HC.out]; rfl, hB0⟩
      · have HC := hide (chkA_rows hL h0 h16)
        have d3 : decide ((16 : Int) < (rows.length : Int)) = false := decide_eq_false (by omega)
        have HR := hide (hR.below hB0)
        obtain ⟨B, hBB⟩ : ∃ B, w.heap.size = B := ⟨_, rfl⟩
        have k0 : (w.alloc (Obj.cells #[.int .i64 L, .slice A rows.length c] 24)).cell? ⟨B, 0, none⟩ = some (.int .i64 L) := by
          rw [cell_of_row _ B 0 _ _ _ (by rw [← hBB]; exact heap_alloc_new w _)]; rfl
        have k1 : (w.alloc (Obj.cells #[.int .i64 L, .slice A rows.length c] 24)).cell? ⟨B, 1, none⟩ = some (.slice A rows.length c) := by
          rw [cell_of_row _ B 1 _ _ _ (by rw [← hBB]; exact heap_alloc_new w _)]; rfl
        have hn16 : rows.length ≤ 16 := by omega
        obtain ⟨l, rfl⟩ := Int.eq_ofNat_of_zero_le (show 0 ≤ L by omega)
        have hl8 : 1 ≤ l ∧ l ≤ 8 := by omega
        clear hR hb h16 h0 hL
        go_enter Tryd.func29, Tryd.ntmps29
        go_wp2
        generalize w.alloc (Obj.cells #[.int .i64 (l : Int), .slice A rows.length c] 24) = W1 at hB0 HR k0 k1 ⊢
        go_loopw [27] (fun iv wr => ∃ s : Nat, iv = .int .i64 s ∧ s ≤ rows.length ∧ Hid (∀ j (hj : j < rows.length), j < s → chkRow rows.length l rows[j] = 0) ∧ wr = W1) (fun iv _ => rows.length - (intOf iv).toNat)
        case atStart => exact ⟨0, rfl, Nat.zero_le _, hide fun j _ h => absurd h (by omega), rfl⟩
        case round =>
          obtain ⟨s, rfl, hs, hK, rfl⟩ := hrel
          by_cases hlt : s < rows.length
          · obtain ⟨b, o, rfl, hbl, hcell⟩ := HR.out (by omega)
            obtain ⟨D, cD, hcs, hrow⟩ := hcell s hlt
            obtain ⟨r, hr⟩ : ∃ r, r = rows[s] := ⟨_, rfl⟩
            rw [← hr] at hcs hrow
            have HCELL := hide hcell
            have hs0 : (0 : Int) ≤ (s : Int) := by omega
            have hs1 : (s : Int) < (rows.length : Int) := by omega
            have HRR := hide hr
            by_cases hne : r.length = l
            · have hb1 : ((r.length : Int) != (l : Int)) = false := by rw [hne]; simp
              have HCF := cfI_any rows.length r D (some ⟨b, o, none⟩) cD c B wr hrow (by omega) k1
              have HNE := hide hne
              cases hbad : r.any (badB rows.length) with
              | true =>
                rw [hbad] at HCF
                have HC2 := hide (show chkRows rows.length l rows = 25 by
                  have h11 : chkRow rows.length l rows[s] = 25 := by rw [← HRR.out]; exact chkRow_bad hne hbad
                  rw [chkRows_at hlt hK.out (by rw [h11]; decide), h11])
                have HCF2 := hide HCF
                clear hbad HCF hne hcell hr hrow
                go_wp2_with (go_at_call 53; refine HCF2.out.mono ?_; rintro e w' ⟨rfl, rfl⟩)
                go_ret
                exact ⟨by rw [HC.out, Int.toNat_natCast, HC2.out]; rfl, hB0⟩
              | false =>
                rw [hbad] at HCF
                have H0 := hide (chkRow_good hne hbad)
                have HCF2 := hide HCF
                clear hbad HCF hne hcell hr hrow
                go_wp2_with (go_at_call 53; refine HCF2.out.mono ?_; rintro e w' ⟨rfl, rfl⟩)
                go_roundw
                case rel =>
                  refine ⟨s + 1, by go_num, hlt, hide fun j hj hjs => ?_, by first | exact trivial | rfl⟩
                  rcases Nat.lt_or_ge j s with h | h
                  · exact hK.out j hj h
                  · obtain rfl : j = s := by omega
                    have h4 := HRR.out
                    rw [← h4]
                    exact H0.out
                case measure => simp [intOf]; omega
            · have hb1 : ((r.length : Int) != (l : Int)) = true := by rw [bne_iff_ne]; omega
              have HC2 := hide (show chkRows rows.length l rows = 11 by
                have h11 : chkRow rows.length l rows[s] = 11 := by
                  rw [← HRR.out]; unfold chkRow; rw [if_pos hne]
                rw [chkRows_at hlt hK.out (by rw [h11]; decide), h11])
              clear hne hcell hr hrow
              go_wp2
              go_ret
              exact ⟨by rw [HC.out, Int.toNat_natCast, HC2.out]; rfl, hB0⟩
          · obtain rfl : s = rows.length := by omega
            have HC2 := hide (chkRows_ok fun j hj => hK.out j hj hj)
            go_wp2
            go_ret
            exact ⟨by rw [HC.out, Int.toNat_natCast, HC2.out]; rfl, hB0⟩
end Go.Proofs.YtmokccidpnpimaaDoor
