/- grooveref44.Check: its contract. -/
import Derived.Test.YtmokccidpnpimaaDoorRowD
import Derived.Test.YtmokccidpnpimaaDoorAutP
import Derived.BigQuiet
import Derived.Laws.Rows
set_option linter.unusedVariables false
namespace Go.Proofs.YtmokccidpnpimaaDoor
open Go.RowKit
/-- an automaton's value -/
def autV (L : Int) (A : Option Addr) (n c : Nat) : Value := .agg #[.int .i64 L, .slice A n c]
theorem chkA_bad {L : Int} {rows : List (List Int)} (h : L < 1 ∨ 8 < L) : chkA L rows = 12 := by unfold chkA; rw [if_pos h]
theorem chkA_empty {L : Int} {rows : List (List Int)} (h : ¬ (L < 1 ∨ 8 < L)) (h0 : rows.length = 0) : chkA L rows = 5 := by unfold chkA; rw [if_neg h, if_pos h0]
theorem chkA_many {L : Int} {rows : List (List Int)} (h : ¬ (L < 1 ∨ 8 < L)) (h0 : 16 < rows.length) : chkA L rows = 4 := by unfold chkA; rw [if_neg h, if_neg (by omega), if_pos h0]
theorem chkA_rows {L : Int} {rows : List (List Int)} (h : ¬ (L < 1 ∨ 8 < L)) (h0 : ¬ rows.length = 0) (h1 : ¬ 16 < rows.length) : chkA L rows = chkRows rows.length L.toNat rows := by unfold chkA; rw [if_neg h, if_neg h0, if_neg h1]
set_option maxRecDepth 100000 in
set_option maxHeartbeats 4000000 in
theorem zrCheck_any (L : Int) (rows : List (List Int)) (A : Option Addr) (c : Nat) (w : World) (hR : RowD w A rows) (hb : rows.length ≤ 9223372036854775807) :
    Calls Tryd.prog 20 #[.agg #[.int .i64 L, .slice A rows.length c]] w fun e w' => e = .returned (.int .i64 (chkA L rows)) ∧ Below w.heap.size w w' := by
  have hB0 : Below w.heap.size w (w.alloc (Obj.cells #[.int .i64 L, .slice A rows.length c] 24)) := (Below.refl _ w).alloc (Nat.le_refl _) _
  by_cases hL : L < 1 ∨ 8 < L
  · have HC := hide (chkA_bad (rows := rows) hL)
    by_cases h1 : L < 1
    · have d1 : decide (L < 1) = true := decide_eq_true h1
      go_enter Tryd.func20, Tryd.ntmps20
      go_wp2
      go_ret
      exact ⟨by rw [HC.out]; rfl, hB0⟩
    · have d1 : decide (L < 1) = false := decide_eq_false h1
      have d2 : decide (8 < L) = true := decide_eq_true (by omega)
      go_enter Tryd.func20, Tryd.ntmps20
      go_wp2
      go_ret
      exact ⟨by rw [HC.out]; rfl, hB0⟩
  · have d1 : decide (L < 1) = false := decide_eq_false (by omega)
    have d2 : decide (8 < L) = false := decide_eq_false (by omega)
    by_cases h0 : rows.length = 0
    · have HC := hide (chkA_empty hL h0)
      have hz : ((rows.length : Int) == 0) = true := by rw [h0]; rfl
      clear h0
      go_enter Tryd.func20, Tryd.ntmps20
      go_wp2
      go_ret
      exact ⟨by rw [HC.out]; rfl, hB0⟩
    · have hz : ((rows.length : Int) == 0) = false := by rw [beq_eq_false_iff_ne]; omega
      by_cases h16 : 16 < rows.length
      · have HC := hide (chkA_many hL h16)
        have d3 : decide ((16 : Int) < (rows.length : Int)) = true := decide_eq_true (by omega)
        go_enter Tryd.func20, Tryd.ntmps20
        go_wp2
        go_ret
        exact ⟨by rw [HC.out]; rfl, hB0⟩
      · have HC := hide (chkA_rows hL h0 h16)
        have d3 : decide ((16 : Int) < (rows.length : Int)) = false := decide_eq_false (by omega)
        have HR := hide (hR.below hB0)
        obtain ⟨B, hBB⟩ : ∃ B, w.heap.size = B := ⟨_, rfl⟩
        have k0 : (w.alloc (Obj.cells #[.int .i64 L, .slice A rows.length c] 24)).cell? ⟨B, 0, none⟩ = some (.int .i64 L) := by
          rw [cell_of_row _ B 0 _ _ _ (by rw [← hBB]; exact heap_alloc_new w _)]; rfl
        have k1 : (w.alloc (Obj.cells #[.int .i64 L, .slice A rows.length c] 24)).cell? ⟨B, 1, none⟩ = some (.slice A rows.length c) := by
          rw [cell_of_row _ B 1 _ _ _ (by rw [← hBB]; exact heap_alloc_new w _)]; rfl
        have hn16 : rows.length ≤ 16 := by omega
        obtain ⟨l, rfl⟩ := Int.eq_ofNat_of_zero_le (show 0 ≤ L by omega)
        have hl8 : 1 ≤ l ∧ l ≤ 8 := by omega
        clear hR hb h16 h0 hL
        go_enter Tryd.func20, Tryd.ntmps20
        go_wp2
        generalize w.alloc (Obj.cells #[.int .i64 (l : Int), .slice A rows.length c] 24) = W1 at hB0 HR k0 k1 ⊢
        go_loopw [3] (fun iv wr => ∃ s : Nat, iv = .int .i64 s ∧ s ≤ rows.length ∧ Hid (∀ j (hj : j < rows.length), j < s → chkRow rows.length l rows[j] = 0) ∧ ∃ q, wr = W1.drewN q) (fun iv _ => rows.length - (intOf iv).toNat)
        case atStart => exact ⟨0, rfl, Nat.zero_le _, hide fun j _ h => absurd h (by omega), 0, rfl⟩
        case round =>
          obtain ⟨s, rfl, hs, hK, q, rfl⟩ := hrel
          by_cases hlt : s < rows.length
          · obtain ⟨b, o, rfl, hbl, hcell⟩ := HR.out (by omega)
            obtain ⟨D, cD, hcs, hrow⟩ := hcell s hlt
            obtain ⟨r, hr⟩ : ∃ r, r = rows[s] := ⟨_, rfl⟩
            rw [← hr] at hcs hrow
            have HCELL := hide hcell
            have hs0 : (0 : Int) ≤ (s : Int) := by omega
            have hs1 : (s : Int) < (rows.length : Int) := by omega
            have HRR := hide hr
            have HROW := hide hrow
            clear hcell hr hrow
            by_cases hne : r.length = l
            · have hb1 : ((r.length : Int) != (l : Int)) = false := by rw [hne]; simp
              have HNE := hide hne
              clear hne
              go_wp2_with fail
              go_quiet (fail)
              go_wp2_with fail
              go_loopw [4] (fun iv wr => ∃ i : Nat, iv = .int .i64 i ∧ i ≤ l ∧ Hid (∀ j (hj : j < r.length), j < i → 0 ≤ r[j] ∧ r[j] < (rows.length : Int)) ∧ ∃ q, wr = W1.drewN q) (fun iv _ => l - (intOf iv).toNat)
              case atStart => exact ⟨0, rfl, Nat.zero_le _, hide fun j _ h => absurd h (by omega), _, by simp; rfl⟩
              case round =>
                obtain ⟨i, rfl, hi, hJ, q2, rfl⟩ := hrel
                by_cases hil : i < l
                · have hir : i < r.length := by have := HNE.out; omega
                  obtain ⟨bD, oD, rfl, hbD, hcD⟩ := HROW.out (by omega)
                  have hce := hcD i hir
                  obtain ⟨z, hz⟩ : ∃ z, z = r[i] := ⟨_, rfl⟩
                  rw [← hz] at hce
                  have HZ := hide hz
                  have HCD := hide hcD
                  have hi0 : (0 : Int) ≤ (i : Int) := by omega
                  have hi1 : (i : Int) < (r.length : Int) := by omega
                  have hil2 : (i : Int) < (l : Int) := by omega
                  clear hz hcD
                  by_cases hb : z < 0
                  · have e1 : decide (z < 0) = true := decide_eq_true hb
                    have HC2 := hide (show chkRows rows.length l rows = 25 by
                      have h11 : chkRow rows.length l rows[s] = 25 := by
                        rw [← HRR.out]; unfold chkRow; rw [if_neg (by simp [HNE.out]), if_pos]
                        rw [List.any_eq_true]
                        exact ⟨r[i], List.getElem_mem _, by rw [← HZ.out]; simp [hb]⟩
                      rw [chkRows_at hlt hK.out (by rw [h11]; decide), h11])
                    clear hb
                    go_wp2_with fail
                    go_quiet (fail)
                    go_wp2
                    go_ret
                    exact ⟨by rw [HC.out, Int.toNat_natCast, HC2.out]; rfl, belowN (belowN hB0 _) _⟩
                  · have e1 : decide (z < 0) = false := decide_eq_false hb
                    by_cases hg : (rows.length : Int) ≤ z
                    · have e2 : decide ((rows.length : Int) ≤ z) = true := decide_eq_true hg
                      have HC2 := hide (show chkRows rows.length l rows = 25 by
                        have h11 : chkRow rows.length l rows[s] = 25 := by
                          rw [← HRR.out]; unfold chkRow; rw [if_neg (by simp [HNE.out]), if_pos]
                          rw [List.any_eq_true]
                          exact ⟨r[i], List.getElem_mem _, by rw [← HZ.out]; simp [hg]⟩
                        rw [chkRows_at hlt hK.out (by rw [h11]; decide), h11])
                      clear hb hg
                      go_wp2_with fail
                      go_quiet (fail)
                      go_wp2
                      go_ret
                      exact ⟨by rw [HC.out, Int.toNat_natCast, HC2.out]; rfl, belowN (belowN hB0 _) _⟩
                    · have e2 : decide ((rows.length : Int) ≤ z) = false := decide_eq_false hg
                      have HJ2 := hide (show ∀ j (hj : j < r.length), j < i + 1 → 0 ≤ r[j] ∧ r[j] < (rows.length : Int) from fun j hj hji => by
                        rcases Nat.lt_or_ge j i with h | h
                        · exact hJ.out j hj h
                        · obtain rfl : j = i := by omega
                          have := HZ.out
                          omega)
                      clear hb hg hJ
                      go_wp2_with fail
                      go_quiet (fail)
                      go_wp2
                      go_roundw
                      case rel => exact ⟨i + 1, by go_num, hil, HJ2, _, rfl⟩
                      case measure => simp [intOf]; omega
                · obtain rfl : i = l := by omega
                  have HR0 := hide (show chkRow rows.length i r = 0 by
                    unfold chkRow
                    rw [if_neg (by simp [HNE.out]), if_neg]
                    intro h
                    obtain ⟨x, hx, hx2⟩ := List.any_eq_true.1 h
                    obtain ⟨j, hj, rfl⟩ := List.getElem_of_mem hx
                    have h3 := hJ.out j hj (by have := HNE.out; omega)
                    simp at hx2
                    omega)
                  have hil2 : ¬ ((i : Int) < (i : Int)) := by omega
                  clear hJ
                  go_wp2
                  go_roundw
                  case rel =>
                    refine ⟨s + 1, by go_num, hlt, hide fun j hj hjs => ?_, _, rfl⟩
                    rcases Nat.lt_or_ge j s with h | h
                    · exact hK.out j hj h
                    · obtain rfl : j = s := by omega
                      have h4 := HRR.out
                      rw [← h4]
                      exact HR0.out
                  case measure => simp [intOf]; omega
            · have hb1 : ((r.length : Int) != (l : Int)) = true := by rw [bne_iff_ne]; omega
              have HC2 := hide (show chkRows rows.length l rows = 11 by
                have h11 : chkRow rows.length l rows[s] = 11 := by
                  rw [← HRR.out]; unfold chkRow; rw [if_pos hne]
                rw [chkRows_at hlt hK.out (by rw [h11]; decide), h11])
              clear hne
              go_wp2_with fail
              go_quiet (fail)
              go_wp2
              go_ret
              exact ⟨by rw [HC.out, Int.toNat_natCast, HC2.out]; rfl, belowN (belowN hB0 _) _⟩
          · obtain rfl : s = rows.length := by omega
            have HC2 := hide (chkRows_ok fun j hj => hK.out j hj hj)
            go_wp2
            go_ret
            exact ⟨by rw [HC.out, Int.toNat_natCast, HC2.out]; rfl, belowN hB0 _⟩
end Go.Proofs.YtmokccidpnpimaaDoor
