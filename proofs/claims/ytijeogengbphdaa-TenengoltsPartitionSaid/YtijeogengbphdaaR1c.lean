/- grooveref01.Add: its contract (numbers that are not negative). -/
import Derived.Test.YtijeogengbphdaaR1b
set_option linter.unusedVariables false
namespace Go.Proofs.Ytijeogengbphdaa
open Go.RowKit
theorem ResI.other {w : World} {B R : Nat} {b : Bool} {s : ByteArray} (h : ResI w B b s) (hne : B ≠ R) (u v : Value) : ResI ((w.setCell ⟨R, 0, none⟩ u).setCell ⟨R, 1, none⟩ v) B b s := by
  unfold ResI at h ⊢
  rw [Below.heap_setCell _ ⟨R, 1, none⟩ _ B hne, Below.heap_setCell _ ⟨R, 0, none⟩ _ B hne]
  exact h
theorem r1Of_agg (N : Nat) (hN : N < 9223372036854775808) (w : World) :
    Calls Try.prog 53 #[.int .i64 N] w fun e w' => e = .returned (.agg #[.bool false, .string ⟨(beN N).toArray⟩]) ∧ Below w.heap.size w w' := r1Of_any N hN w
set_option maxRecDepth 100000 in
set_option maxHeartbeats 4000000 in
theorem r1Add_any (X Y : Nat) (w : World) (hbX : Sml X) (hbY : Sml Y) :
    Calls Try.prog 54 #[intV X, intV Y] w fun e w' => e = .returned (intV (X + Y)) ∧ Below w.heap.size w w' := by
  obtain ⟨sx, hsx⟩ : ∃ sx : ByteArray, sx = ⟨(beN X).toArray⟩ := ⟨_, rfl⟩
  obtain ⟨sy, hsy⟩ : ∃ sy : ByteArray, sy = ⟨(beN Y).toArray⟩ := ⟨_, rfl⟩
  have HX := hide (fun W => r1Canon_any sx X hsx W)
  have HY := hide (fun W => r1Canon_any sy Y hsy W)
  have hX8 : sx.size ≤ 8000 := by rw [mag_size hsx]; exact hbX.bytes
  have hY8 : sy.size ≤ 8000 := by rw [mag_size hsy]; exact hbY.bytes
  have HM := hide (fun W => r1addMag_any sx sy X Y hsx hsy hX8 hY8 W)
  have HVX := hide (fun h W => r1value_any sx X hsx h W)
  have HVY := hide (fun h W => r1value_any sy Y hsy h W)
  have hX7 : sx.size < 8 → X < 72057594037927936 := fun h => by
    have := blen_lt X
    rw [← mag_size hsx] at this
    exact Nat.lt_of_lt_of_le this (Nat.pow_le_pow_right (show 0 < 256 by decide) (show sx.size ≤ 7 by omega))
  have hY7 : sy.size < 8 → Y < 72057594037927936 := fun h => by
    have := blen_lt Y
    rw [← mag_size hsy] at this
    exact Nat.lt_of_lt_of_le this (Nat.pow_le_pow_right (show 0 < 256 by decide) (show sy.size ≤ 7 by omega))
  have HX7 := hide hX7
  have HY7 := hide hY7
  have hR : Calls Try.prog 54 #[.agg #[.bool false, .string sx], .agg #[.bool false, .string sy]] w fun e w' => e = .returned (intV (X + Y)) ∧ Below w.heap.size w w' := by
    clear hsx hsy hbX hbY hX7 hY7
    obtain ⟨c0, c1, c2, hs0, hB0⟩ := boxes3 w false false false sx sy ⟨#[]⟩
    go_enter Try.func54, Try.ntmps54
    go_wp2_with fail
    generalize ((w.alloc (.cells #[.bool false, .string sx] 39)).alloc (.cells #[.bool false, .string sy] 39)).alloc (.cells #[.bool false, .string ⟨#[]⟩] 39) = W0 at c0 c1 c2 hs0 hB0 ⊢
    obtain ⟨B, hBB⟩ : ∃ B, w.heap.size = B := ⟨_, rfl⟩
    rw [hBB] at c0 c1 c2 hs0 hB0 ⊢
    obtain ⟨R, hRR⟩ : ∃ R, R = B + 1 + 1 := ⟨_, rfl⟩
    obtain ⟨P, hPP⟩ : ∃ P, P = B + 1 := ⟨_, rfl⟩
    rw [← hRR] at c2 ⊢
    rw [← hPP] at c1 ⊢
    have hBP : B ≠ P := by omega
    have hPB : P ≠ B := by omega
    have lB : B < B + 1 + 1 + 1 := by omega
    have lP : P < B + 1 + 1 + 1 := by omega
    have lR : R < B + 1 + 1 + 1 := by omega
    have hRB : R ≠ B := by omega
    have hRP : R ≠ P := by omega
    have HRR := hide hRR
    have HPP := hide hPP
    clear hRR hPP
    have hAcc : Below (B + 1 + 1 + 1) W0 W0.drew := (Below.refl _ _).drew
    have hSz := hs0
    have k0 : ResI W0.drew B false sx := c0
    have k1 : ResI W0.drew P false sy := c1
    have f0 := c0.c0
    have f1 := c0.c1
    have f2 := c1.c0
    have f3 := c1.c1
    go_region_held3 (fun W => W.cell? ⟨B, 0, none⟩ = some (.bool false) ∧ W.cell? ⟨B, 1, none⟩ = some (.string sx) ∧ W.cell? ⟨P, 0, none⟩ = some (.bool false) ∧ W.cell? ⟨P, 1, none⟩ = some (.string sy))
      (first | with_reducible exact ⟨k0.c0, k0.c1, k1.c0, k1.c1⟩ | with_reducible exact ⟨(k0.set_ _ _).c0, (k0.set_ _ _).c1, (k1.other hPB _ _).c0, (k1.other hPB _ _).c1⟩ | with_reducible exact ⟨(k0.other hBP _ _).c0, (k0.other hBP _ _).c1, (k1.set_ _ _).c0, (k1.set_ _ _).c1⟩ | with_reducible exact ⟨((k0.set_ _ _).other hBP _ _).c0, ((k0.set_ _ _).other hBP _ _).c1, ((k1.other hPB _ _).set_ _ _).c0, ((k1.other hPB _ _).set_ _ _).c1⟩ | with_reducible exact ⟨((k0.other hBP _ _).set_ _ _).c0, ((k0.other hBP _ _).set_ _ _).c1, ((k1.set_ _ _).other hPB _ _).c0, ((k1.set_ _ _).other hPB _ _).c1⟩)
      (first
        | (go_at_call_of 77 sx; refine (HX.out _).mono ?_; rintro e w1 ⟨rfl, hB1⟩; replace hAcc := hAcc.trans (hB1.mono (Nat.le_trans (Nat.le_of_eq hSz.symm) hAcc.size)); replace k0 := c0.below hAcc lB; replace k1 := c1.below hAcc lP; have y0 := k0.c0; have y1 := k0.c1; have y2 := k1.c0; have y3 := k1.c1; have z0 := k0.z0; have z1 := k0.z1; have z2 := k1.z0; have z3 := k1.z1)
        | (go_at_call_of 77 sy; refine (HY.out _).mono ?_; rintro e w1 ⟨rfl, hB1⟩; replace hAcc := hAcc.trans (hB1.mono (Nat.le_trans (Nat.le_of_eq hSz.symm) hAcc.size)); replace k0 := c0.below hAcc lB; replace k1 := c1.below hAcc lP; have y0 := k0.c0; have y1 := k0.c1; have y2 := k1.c0; have y3 := k1.c1; have z0 := k0.z0; have z1 := k0.z1; have z2 := k1.z0; have z3 := k1.z1))
    have hRBl : B ≤ R := by have := HRR.out; omega
    have hPBl : B ≤ P := by have := HPP.out; omega
    have hBR : B ≠ R := fun h => hRB h.symm
    have hPR : P ≠ R := fun h => hRP h.symm
    have K0 := (k0.set_ false sx).other hBP (.bool false) (.string sy)
    have K1 := (k1.other hPB (.bool false) (.string sx)).set_ false sy
    have K2 := ((c2.below hAcc lR).other hRB (.bool false) (.string sx)).other hRP (.bool false) (.string sy)
    have hB2 := Below.pair (Below.pair (hB0.trans (hAcc.mono (by omega))) (Nat.le_refl _) (.bool false) (.string sx)) hPBl (.bool false) (.string sy)
    have hsz2 := (Below.pair (Below.pair (Below.refl 0 w1) (Nat.zero_le B) (.bool false) (.string sx)) (Nat.zero_le P) (.bool false) (.string sy)).size
    have hsz3 := Nat.le_trans (Nat.le_trans (Nat.le_of_eq hSz.symm) hAcc.size) hsz2
    generalize (((w1.setCell ⟨B, 0, none⟩ (.bool false)).setCell ⟨B, 1, none⟩ (.string sx)).setCell ⟨P, 0, none⟩ (.bool false)).setCell ⟨P, 1, none⟩ (.string sy) = W1 at K0 K1 K2 hB2 hsz2 hsz3 ⊢
    clear hsz2 hAcc k0 k1 f0 f1 f2 f3 HX HY hB1 hSz hB0 hs0 c0 c1 c2
    have g0 := K0.c0
    have g1 := K0.c1
    have g2 := K1.c0
    have g3 := K1.c1
    have hAcc : Below (B + 1 + 1 + 1) W1 W1.drew := (Below.refl _ _).drew
    have k0 : ResI W1.drew B false sx := K0
    have k1 : ResI W1.drew P false sy := K1
    by_cases h8 : sx.size < 8 ∧ sy.size < 8
    · obtain ⟨hx8, hy8⟩ := h8
      have bx := HX7.out hx8
      have bY := HY7.out hy8
      have dx : decide ((sx.size : Int) < 8) = true := decide_eq_true (by omega)
      have dy : decide ((sy.size : Int) < 8) = true := decide_eq_true (by omega)
      have VX := hide (HVX.out hx8)
      have VY := hide (HVY.out hy8)
      have VO : Hid (∀ W : World, Calls Try.prog 53 #[.int .i64 ((X : Int) + (Y : Int))] W fun e w' => e = .returned (.agg #[.bool false, .string ⟨(beN (X + Y)).toArray⟩]) ∧ Below W.heap.size W w') :=
        hide (fun W => by have := r1Of_agg (X + Y) (by omega) W; rw [Int.natCast_add] at this; exact this)
      have hwr : IntKind.i64.wrap ((X : Int) + (Y : Int)) = (X : Int) + (Y : Int) := IntWalk.i64_in _ (by omega)
      go_wp2_with fail
      go_region_held3 (fun W => W.cell? ⟨B, 0, none⟩ = some (.bool false) ∧ W.cell? ⟨B, 1, none⟩ = some (.string sx) ∧ W.cell? ⟨P, 0, none⟩ = some (.bool false) ∧ W.cell? ⟨P, 1, none⟩ = some (.string sy))
        (first | with_reducible exact ⟨k0.c0, k0.c1, k1.c0, k1.c1⟩ | with_reducible exact ⟨(k0.other hBR _ _).c0, (k0.other hBR _ _).c1, (k1.other hPR _ _).c0, (k1.other hPR _ _).c1⟩)
        (first
          | (go_at_call_of 78 sx; refine (VX.out _).mono ?_; rintro e w2 ⟨rfl, hB3⟩; replace hAcc := hAcc.trans (hB3.mono (Nat.le_trans hsz3 hAcc.size)); replace k0 := K0.below hAcc lB; replace k1 := K1.below hAcc lP)
          | (go_at_call_of 78 sy; refine (VY.out _).mono ?_; rintro e w2 ⟨rfl, hB3⟩; replace hAcc := hAcc.trans (hB3.mono (Nat.le_trans hsz3 hAcc.size)); replace k0 := K0.below hAcc lB; replace k1 := K1.below hAcc lP)
          | (go_at_call 53; refine (VO.out _).mono ?_; rintro e w2 ⟨rfl, hB3⟩; replace hAcc := hAcc.trans (hB3.mono (Nat.le_trans hsz3 hAcc.size)); replace k0 := K0.below hAcc lB; replace k1 := K1.below hAcc lP; have q2 := K2.below hAcc lR; have y0 := q2.c0; have y1 := q2.c1; have z0 := q2.z0; have z1 := q2.z1))
      all_goals (
        go_wp2
        refine bodyPost_ret (ret_apiInt rfl _ _ R _ rfl ((K2.below hAcc lR).set_ _ _) rfl) rfl ?_
        refine ⟨rfl, ?_⟩
        rw [hBB]
        exact Below.pair (hB2.trans (hAcc.mono (by omega))) hRBl _ _)
    · have h9 : (8 : Int) ≤ (sx.size : Int) ∨ ((sx.size : Int) < 8 ∧ (8 : Int) ≤ (sy.size : Int)) := by omega
      have VM : Hid (∀ W : World, Calls Try.prog 79 #[.string sx, .string sy] W fun e w' => e = .returned (.string ⟨(beN (X + Y)).toArray⟩) ∧ Below W.heap.size W w') := HM
      rcases h9 with h9 | ⟨h9, h9'⟩ <;> (
        go_wp2_with fail
        go_region_held3 (fun W => W.cell? ⟨B, 0, none⟩ = some (.bool false) ∧ W.cell? ⟨B, 1, none⟩ = some (.string sx) ∧ W.cell? ⟨P, 0, none⟩ = some (.bool false) ∧ W.cell? ⟨P, 1, none⟩ = some (.string sy))
          (first | with_reducible exact ⟨k0.c0, k0.c1, k1.c0, k1.c1⟩ | with_reducible exact ⟨(k0.other hBR _ _).c0, (k0.other hBR _ _).c1, (k1.other hPR _ _).c0, (k1.other hPR _ _).c1⟩)
          (first
            | (go_at_call 79; refine (VM.out _).mono ?_; rintro e w2 ⟨rfl, hB3⟩; replace hAcc := hAcc.trans (hB3.mono (Nat.le_trans hsz3 hAcc.size)); replace k0 := K0.below hAcc lB; replace k1 := K1.below hAcc lP; have q2 := K2.below hAcc lR; have y0 := q2.c0; have y1 := q2.c1; have z0 := q2.z0; have z1 := q2.z1))
        all_goals (
          go_wp2
          refine bodyPost_ret (ret_apiInt rfl _ _ R _ rfl ((K2.below hAcc lR).set_ _ _) rfl) rfl ?_
          refine ⟨rfl, ?_⟩
          rw [hBB]
          exact Below.pair (hB2.trans (hAcc.mono (by omega))) hRBl _ _))
  rw [hsx, hsy] at hR
  unfold intV at hR ⊢
  exact hR
end Go.Proofs.Ytijeogengbphdaa
