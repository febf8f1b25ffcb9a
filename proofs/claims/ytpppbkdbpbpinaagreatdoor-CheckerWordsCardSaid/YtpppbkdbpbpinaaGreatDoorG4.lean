import Derived.Test.YtpppbkdbpbpinaaGreatDoorG3
import Derived.BigQuiet
import Derived.Laws.Rows
set_option linter.unusedSimpArgs false
set_option linter.unusedVariables false
/- grooveref44.Check: its contract. -/
set_option linter.unusedVariables false
namespace Go.Proofs.YtpppbkdbpbpinaaGreatDoor
open Go.RowKit
/-- an automaton's value -/
def autV (L : Int) (A : Option Addr) (n c : Nat) : Value := .agg #[.int .i64 L, .slice A n c]
theorem chkA_bad {L : Int} {rows : List (List Int)} (h : L < 1 ∨ 8 < L) : chkA L rows = 12 := by unfold chkA; rw [if_pos h]
theorem chkA_empty {L : Int} {rows : List (List Int)} (h : ¬ (L < 1 ∨ 8 < L)) (h0 : rows.length = 0) : chkA L rows = 5 := by unfold chkA; rw [if_neg h, if_pos h0]
theorem chkA_many {L : Int} {rows : List (List Int)} (h : ¬ (L < 1 ∨ 8 < L)) (h0 : 16 < rows.length) : chkA L rows = 4 := by unfold chkA; rw [if_neg h, if_neg (by omega), if_pos h0]
theorem chkA_rows {L : Int} {rows : List (List Int)} (h : ¬ (L < 1 ∨ 8 < L)) (h0 : ¬ rows.length = 0) (h1 : ¬ 16 < rows.length) : chkA L rows = chkRows rows.length L.toNat rows := by unfold chkA; rw [if_neg h, if_neg h0, if_neg h1]
set_option maxRecDepth 100000 in
set_option maxHeartbeats 4000000 in
theorem zrCheck_any (L : Int) (rows : List (List Int)) (A : Option Addr) (c : Nat) (w : World) (hR : RowD w A rows) (hb : rows.length ≤ 9223372036854775807) :
    Calls Tryz.prog 55 #[.agg #[.int .i64 L, .slice A rows.length c]] w fun e w' => e = .returned (.int .i64 (chkA L rows)) ∧ Below w.heap.size w w' := by
  have hB0 : Below w.heap.size w (w.alloc (Obj.cells #[.int .i64 L, .slice A rows.length c] 24)) := (Below.refl _ w).alloc (Nat.le_refl _) _
  by_cases hL : L < 1 ∨ 8 < L
  · have HC := hide (chkA_bad (rows := rows) hL)
    by_cases h1 : L < 1
    · have d1 : decide (L < 1) = true := decide_eq_true h1
      go_enter Tryz.func55, Tryz.ntmps55
      go_wp2
      go_ret
      exact ⟨by rw [HC.out]; rfl, hB0⟩
    · have d1 : decide (L < 1) = false := decide_eq_false h1
      have d2 : decide (8 < L) = true := decide_eq_true (by omega)
      go_enter Tryz.func55, Tryz.ntmps55
      go_wp2
      go_ret
      exact ⟨by rw [HC.out]; rfl, hB0⟩
  · have d1 : decide (L < 1) = false := decide_eq_false (by omega)
    have d2 : decide (8 < L) = false := decide_eq_false (by omega)
    by_cases h0 : rows.length = 0
    · have HC := hide (chkA_empty hL h0)
      have hz : ((rows.length : Int) == 0) = true := by rw [h0]; rfl
      clear h0
      go_enter Tryz.func55, Tryz.ntmps55
      go_wp2
      go_ret
      exact ⟨by rw [HC.out]; rfl, hB0⟩
    · have hz : ((rows.length : Int) == 0) = false := by rw [beq_eq_false_iff_ne]; omega
      by_cases h16 : 16 < rows.length
      · have HC := hide (chkA_many hL h16)
        have d3 : decide ((16 : Int) < (rows.length : Int)) = true := decide_eq_true (by omega)
        go_enter Tryz.func55, Tryz.ntmps55
        go_wp2
        go_ret
        exact ⟨by rw [HC.out]; rfl, hB0⟩
      · have HC := hide (chkA_rows hL h0 h16)
        have d3 : decide ((16 : Int) < (rows.length : Int)) = false := decide_eq_false (by omega)
        have HR := hide (hR.below hB0)
        obtain ⟨B, hBB⟩ : ∃ B, w.heap.size = B := ⟨_, rfl⟩
        have k0 : (w.alloc (Obj.cells #[.int .i64 L, .slice A rows.length c] 24)).cell? ⟨B, 0, none⟩ = some (.int .i64 L) := by
          rw [cell_of_row _ B 0 _ _ _ (by rw [← hBB]; exact heap_alloc_new w _)]; rfl
        have k1 : (w.alloc (Obj.cells #[.int .i64 L, .slice A rows.length c] 24)).cell? ⟨B, 1, none⟩ = some (.slice A rows.length c) := by
          rw [cell_of_row _ B 1 _ _ _ (by rw [← hBB]; exact heap_alloc_new w _)]; rfl
        have hn16 : rows.length ≤ 16 := by omega
        obtain ⟨l, rfl⟩ := Int.eq_ofNat_of_zero_le (show 0 ≤ L by omega)
        have hl8 : 1 ≤ l ∧ l ≤ 8 := by omega
        clear hR hb h16 h0 hL
        go_enter Tryz.func55, Tryz.ntmps55
        go_wp2
        generalize w.alloc (Obj.cells #[.int .i64 (l : Int), .slice A rows.length c] 24) = W1 at hB0 HR k0 k1 ⊢
        go_loopw [3] (fun iv wr => ∃ s : Nat, iv = .int .i64 s ∧ s ≤ rows.length ∧ Hid (∀ j (hj : j < rows.length), j < s → chkRow rows.length l rows[j] = 0) ∧ ∃ q, wr = W1.drewN q) (fun iv _ => rows.length - (intOf iv).toNat)
        case atStart => exact ⟨0, rfl, Nat.zero_le _, hide fun j _ h => absurd h (by omega), 0, rfl⟩
        case round =>
          obtain ⟨s, rfl, hs, hK, q, rfl⟩ := hrel
          by_cases hlt : s < rows.length
          · obtain ⟨b, o, rfl, hbl, hcell⟩ := HR.out (by omega)
            obtain ⟨D, cD, hcs, hrow⟩ := hcell s hlt
            obtain ⟨r, hr⟩ : ∃ r, r = rows[s] := ⟨_, rfl⟩
            rw [← hr] at hcs hrow
            have HCELL := hide hcell
            have hs0 : (0 : Int) ≤ (s : Int) := by omega
            have hs1 : (s : Int) < (rows.length : Int) := by omega
            have HRR := hide hr
            have HROW := hide hrow
            clear hcell hr hrow
            by_cases hne : r.length = l
            · have hb1 : ((r.length : Int) != (l : Int)) = false := by rw [hne]; simp
              have HNE := hide hne
              clear hne
              go_wp2_with fail
              go_quiet (fail)
              go_wp2_with fail
              go_loopw [4] (fun iv wr => ∃ i : Nat, iv = .int .i64 i ∧ i ≤ l ∧ Hid (∀ j (hj : j < r.length), j < i → 0 ≤ r[j] ∧ r[j] < (rows.length : Int)) ∧ ∃ q, wr = W1.drewN q) (fun iv _ => l - (intOf iv).toNat)
              case atStart => exact ⟨0, rfl, Nat.zero_le _, hide fun j _ h => absurd h (by omega), _, by simp; rfl⟩
              case round =>
                obtain ⟨i, rfl, hi, hJ, q2, rfl⟩ := hrel
                by_cases hil : i < l
                · have hir : i < r.length := by have := HNE.out; omega
                  obtain ⟨bD, oD, rfl, hbD, hcD⟩ := HROW.out (by omega)
                  have hce := hcD i hir
                  obtain ⟨z, hz⟩ : ∃ z, z = r[i] := ⟨_, rfl⟩
                  rw [← hz] at hce
                  have HZ := hide hz
                  have HCD := hide hcD
                  have hi0 : (0 : Int) ≤ (i : Int) := by omega
                  have hi1 : (i : Int) < (r.length : Int) := by omega
                  have hil2 : (i : Int) < (l : Int) := by omega
                  clear hz hcD
                  by_cases hb : z < 0
                  · have e1 : decide (z < 0) = true := decide_eq_true hb
                    have HC2 := hide (show chkRows rows.length l rows = 25 by
                      have h11 : chkRow rows.length l rows[s] = 25 := by
                        rw [← HRR.out]; unfold chkRow; rw [if_neg (by simp [HNE.out]), if_pos]
                        rw [List.any_eq_true]
                        exact ⟨r[i], List.getElem_mem _, by rw [← HZ.out]; simp [hb]⟩
                      rw [chkRows_at hlt hK.out (by rw [h11]; decide), h11])
                    clear hb
                    go_wp2_with fail
                    go_quiet (fail)
                    go_wp2
                    go_ret
                    exact ⟨by rw [HC.out, Int.toNat_natCast, HC2.out]; rfl, belowN (belowN hB0 _) _⟩
                  · have e1 : decide (z < 0) = false := decide_eq_false hb
                    by_cases hg : (rows.length : Int) ≤ z
                    · have e2 : decide ((rows.length : Int) ≤ z) = true := decide_eq_true hg
                      have HC2 := hide (show chkRows rows.length l rows = 25 by
                        have h11 : chkRow rows.length l rows[s] = 25 := by
                          rw [← HRR.out]; unfold chkRow; rw [if_neg (by simp [HNE.out]), if_pos]
                          rw [List.any_eq_true]
                          exact ⟨r[i], List.getElem_mem _, by rw [← HZ.out]; simp [hg]⟩
                        rw [chkRows_at hlt hK.out (by rw [h11]; decide), h11])
                      clear hb hg
                      go_wp2_with fail
                      go_quiet (fail)
                      go_wp2
                      go_ret
                      exact ⟨by rw [HC.out, Int.toNat_natCast, HC2.out]; rfl, belowN (belowN hB0 _) _⟩
                    · have e2 : decide ((rows.length : Int) ≤ z) = false := decide_eq_false hg
                      have HJ2 := hide (show ∀ j (hj : j < r.length), j < i + 1 → 0 ≤ r[j] ∧ r[j] < (rows.length : Int) from fun j hj hji => by
                        rcases Nat.lt_or_ge j i with h | h
                        · exact hJ.out j hj h
                        · obtain rfl : j = i := by omega
                          have := HZ.out
                          omega)
                      clear hb hg hJ
                      go_wp2_with fail
                      go_quiet (fail)
                      go_wp2
                      go_roundw
                      case rel => exact ⟨i + 1, by go_num, hil, HJ2, _, rfl⟩
                      case measure => simp [intOf]; omega
                · obtain rfl : i = l := by omega
                  have HR0 := hide (show chkRow rows.length i r = 0 by
                    unfold chkRow
                    rw [if_neg (by simp [HNE.out]), if_neg]
                    intro h
                    obtain ⟨x, hx, hx2⟩ := List.any_eq_true.1 h
                    obtain ⟨j, hj, rfl⟩ := List.getElem_of_mem hx
                    have h3 := hJ.out j hj (by have := HNE.out; omega)
                    simp at hx2
                    omega)
                  have hil2 : ¬ ((i : Int) < (i : Int)) := by omega
                  clear hJ
                  go_wp2
                  go_roundw
                  case rel =>
                    refine ⟨s + 1, by go_num, hlt, hide fun j hj hjs => ?_, _, rfl⟩
                    rcases Nat.lt_or_ge j s with h | h
                    · exact hK.out j hj h
                    · obtain rfl : j = s := by omega
                      have h4 := HRR.out
                      rw [← h4]
                      exact HR0.out
                  case measure => simp [intOf]; omega
            · have hb1 : ((r.length : Int) != (l : Int)) = true := by rw [bne_iff_ne]; omega
              have HC2 := hide (show chkRows rows.length l rows = 11 by
                have h11 : chkRow rows.length l rows[s] = 11 := by
                  rw [← HRR.out]; unfold chkRow; rw [if_pos hne]
                rw [chkRows_at hlt hK.out (by rw [h11]; decide), h11])
              clear hne
              go_wp2_with fail
              go_quiet (fail)
              go_wp2
              go_ret
              exact ⟨by rw [HC.out, Int.toNat_natCast, HC2.out]; rfl, belowN (belowN hB0 _) _⟩
          · obtain rfl : s = rows.length := by omega
            have HC2 := hide (chkRows_ok fun j hj => hK.out j hj hj)
            go_wp2
            go_ret
            exact ⟨by rw [HC.out, Int.toNat_natCast, HC2.out]; rfl, belowN hB0 _⟩
end Go.Proofs.YtpppbkdbpbpinaaGreatDoor

/- math/bits.TrailingZeros64, OnesCount64 at sets of up to six states; single sets. -/
set_option linter.unusedVariables false
namespace Go.Proofs.YtpppbkdbpbpinaaGreatDoor
open Go.RowKit
/-- the table of math/bits -/
def tabZ : List Nat := [0, 1, 56, 2, 57, 49, 28, 3, 61, 58, 42, 50, 38, 29, 17, 4, 62, 47, 59, 36, 45, 43, 51, 22, 53, 39, 33, 30, 24, 18, 12, 5, 63, 55, 48, 27, 60, 41, 37, 16, 46, 35, 44, 21, 52, 32, 23, 11, 54, 26, 40, 15, 34, 20, 31, 10, 25, 14, 19, 9, 13, 8, 7, 6]
/-- the table lies -/
def TabZ (w : World) : Prop := 1 < w.heap.size ∧ ∀ k (hk : k < 64), w.cell? ⟨1, k, none⟩ = some (.int .u8 ((tabZ.getD k 0 : Nat) : Int))
theorem TabZ.below {w w' : World} (h : TabZ w) (hB : Below w.heap.size w w') : TabZ w' :=
  ⟨Nat.lt_of_lt_of_le h.1 hB.size, fun k hk => (hB.cell (p := ⟨1, k, none⟩) h.1).trans (h.2 k hk)⟩
/-- the least state of a set -/
def tz (S : Nat) : Nat := if S.testBit 0 then 0 else if S.testBit 1 then 1 else if S.testBit 2 then 2 else if S.testBit 3 then 3 else if S.testBit 4 then 4 else 5
theorem tz_lt (S : Nat) : tz S < 64 := by
  unfold tz
  repeat' split
  all_goals omega
theorem tz_facts : ∀ s : Fin 64, 0 < s.val →
    (0 ≤ IntKind.u64.wrap (bits BinOp.and IntKind.u64 ((s.val : Nat) : Int) (IntKind.u64.wrap (-((s.val : Nat) : Int))) * 285870213051353865) / 288230376151711744)
    ∧ (IntKind.u64.wrap (bits BinOp.and IntKind.u64 ((s.val : Nat) : Int) (IntKind.u64.wrap (-((s.val : Nat) : Int))) * 285870213051353865) / 288230376151711744 < 64)
    ∧ tabZ.getD (IntKind.u64.wrap (bits BinOp.and IntKind.u64 ((s.val : Nat) : Int) (IntKind.u64.wrap (-((s.val : Nat) : Int))) * 285870213051353865) / 288230376151711744).toNat 0 = tz s.val := by decide +kernel
set_option maxRecDepth 100000 in
theorem bTZ64_any (S : Nat) (w : World) (h0 : 0 < S) (hS : S < 64) (hT : TabZ w) :
    Calls Tryz.prog 266 #[.int .u64 S] w fun e w' => e = .returned (.int .i64 (tz S)) ∧ w' = w := by
  have hz : ((S : Int) == 0) = false := by rw [beq_eq_false_iff_ne]; omega
  obtain ⟨f1, f2, f3⟩ := tz_facts ⟨S, hS⟩ h0
  have hc := hT.2 _ (show (IntKind.u64.wrap (bits BinOp.and IntKind.u64 (S : Int) (IntKind.u64.wrap (-(S : Int))) * 285870213051353865) / 288230376151711744).toNat < 64 by dsimp only at f1 f2; omega)
  dsimp only at f1 f2 f3
  rw [f3] at hc
  have ht : (0 : Int) ≤ (tz S : Int) ∧ (tz S : Int) < 64 := by have : tz S < 64 := tz_lt S; omega
  clear f3 hT
  go_enter Tryz.func266, Tryz.ntmps266
  go_wp2
  go_ret
  exact ⟨rfl, rfl⟩
set_option maxRecDepth 100000 in
theorem bTZ_any (S : Nat) (w : World) (h0 : 0 < S) (hS : S < 64) (hT : TabZ w) :
    Calls Tryz.prog 192 #[.int .u64 S] w fun e w' => e = .returned (.int .i64 (tz S)) ∧ w' = w := by
  have HT := hide (bTZ64_any S w h0 hS hT)
  clear hT
  go_enter Tryz.func192, Tryz.ntmps192
  go_wp2_with (go_at_call 266; refine HT.out.mono ?_; rintro e w' ⟨rfl, rfl⟩)
  go_ret
  exact ⟨rfl, rfl⟩
set_option maxRecDepth 100000 in
theorem bOC64_any (S : Nat) (w : World) (hS : S < 64) :
    Calls Tryz.prog 264 #[.int .u64 S] w fun e w' => ∃ z : Int, e = .returned (.int .i64 z) ∧ w' = w ∧ (z == 1) = sglB S := by
  go_enter Tryz.func264, Tryz.ntmps264
  go_wp2
  go_ret
  refine ⟨_, rfl, rfl, ?_⟩
  clear w
  revert S
  decide +kernel
set_option maxRecDepth 100000 in
theorem bOC_any (S : Nat) (w : World) (hS : S < 64) :
    Calls Tryz.prog 191 #[.int .u64 S] w fun e w' => ∃ z : Int, e = .returned (.int .i64 z) ∧ w' = w ∧ (z == 1) = sglB S := by
  have HT := hide (bOC64_any S w hS)
  go_enter Tryz.func191, Tryz.ntmps191
  go_wp2_with (go_at_call 264; refine HT.out.mono ?_; rintro e w' ⟨z, rfl, rfl, hz⟩)
  go_ret
  exact ⟨z, rfl, rfl, hz⟩
set_option maxRecDepth 100000 in
theorem zsingle_any (S : Nat) (w : World) (hS : S < 64) :
    Calls Tryz.prog 116 #[.int .i64 S] w fun e w' => e = .returned (.bool (sglB S)) ∧ w' = w := by
  have HT := hide (bOC_any S w hS)
  go_enter Tryz.func116, Tryz.ntmps116
  go_wp2_with (go_at_call 191; refine HT.out.mono ?_; rintro e w' ⟨z, rfl, rfl, hz⟩)
  go_ret
  exact ⟨by rw [← hz]; rfl, rfl⟩
theorem rsgl : ∀ S, S < 64 → 0 < S → (bits BinOp.and IntKind.i64 ((S : Nat) : Int) ((S : Int) - 1) == 0) = sglB S := by decide +kernel
set_option maxRecDepth 100000 in
theorem zrsingle_any (S : Nat) (w : World) (hS : S < 64) :
    Calls Tryz.prog 121 #[.int .i64 S] w fun e w' => e = .returned (.bool (sglB S)) ∧ w' = w := by
  rcases Nat.eq_zero_or_pos S with rfl | h0
  · go_enter Tryz.func121, Tryz.ntmps121
    go_wp2
    go_ret
    exact ⟨rfl, rfl⟩
  · have hz : ((S : Int) != 0) = true := by rw [bne_iff_ne]; omega
    have hs := hide (rsgl S hS h0)
    go_enter Tryz.func121, Tryz.ntmps121
    go_wp2
    go_ret
    exact ⟨by rw [← hs.out]; rfl, rfl⟩
theorem rhas : ∀ S, S < 64 → ∀ k, k < 7 → (bits BinOp.and IntKind.i64 ((S : Nat) / 2 ^ k : Nat) 1 == 1) = S.testBit k := by decide +kernel
set_option maxRecDepth 100000 in
theorem zhas_any (S k : Nat) (w : World) (hS : S < 64) (hk : k < 7) :
    Calls Tryz.prog 122 #[.int .i64 S, .int .i64 k] w fun e w' => e = .returned (.bool (S.testBit k)) ∧ w' = w := by
  have hs := hide (rhas S hS k hk)
  go_enter Tryz.func122, Tryz.ntmps122
  go_wp2
  go_ret
  trace_state
  exact ⟨by rw [← hs.out]; rfl, rfl⟩
end Go.Proofs.YtpppbkdbpbpinaaGreatDoor
