/- integer.Sub, Compare (the first number not less than the second one, which is positive): their contracts. -/
import Derived.Test.YtijeogengbphdaaNeg
import Derived.Test.YtijeogengbphdaaIRow
set_option linter.unusedVariables false
namespace Go.Proofs.Ytijeogengbphdaa
open Go.RowKit
set_option maxRecDepth 100000 in
set_option maxHeartbeats 2000000 in
theorem iSub_ge (X Y : Nat) (hle : Y ≤ X) (hY : 0 < Y) (hbX : Sml X) (hbY : Sml Y) (w : World) :
    Calls Try.prog 63 #[.agg #[.bool false, .string (mg X)], .agg #[.bool false, .string (mg Y)]] w fun e w' => e = .returned (.agg #[.bool false, .string (mg (X - Y))]) ∧ Below w.heap.size w w' := by
  have HN := hide (fun W => iNeg_pos Y hY W hbY)
  have HA := hide (fun W => iAdd_neg X Y hle W hbX hbY)
  obtain ⟨sx, hsx⟩ : ∃ sx : ByteArray, sx = mg X := ⟨_, rfl⟩
  obtain ⟨sy, hsy⟩ : ∃ sy : ByteArray, sy = mg Y := ⟨_, rfl⟩
  obtain ⟨sd, hsd⟩ : ∃ sd : ByteArray, sd = mg (X - Y) := ⟨_, rfl⟩
  rw [show (⟨(beN Y).toArray⟩ : ByteArray) = sy from hsy.symm] at HN HA
  rw [show (⟨(beN X).toArray⟩ : ByteArray) = sx from hsx.symm, show (⟨(beN (X - Y)).toArray⟩ : ByteArray) = sd from hsd.symm] at HA
  rw [← hsx, ← hsy, ← hsd]
  clear hsx hsy hsd
  obtain ⟨c0, c1, c2, hs0, hB0⟩ := boxes3 w false false false sx sy ⟨#[]⟩
  go_enter Try.func63, Try.ntmps63
  go_wp2_with fail
  generalize ((w.alloc (.cells #[.bool false, .string sx] 39)).alloc (.cells #[.bool false, .string sy] 39)).alloc (.cells #[.bool false, .string ⟨#[]⟩] 39) = W0 at c0 c1 c2 hs0 hB0 ⊢
  obtain ⟨B, hBB⟩ : ∃ B, w.heap.size = B := ⟨_, rfl⟩
  rw [hBB] at c0 c1 c2 hs0 hB0 ⊢
  obtain ⟨R, hRR⟩ : ∃ R, R = B + 1 + 1 := ⟨_, rfl⟩
  obtain ⟨P, hPP⟩ : ∃ P, P = B + 1 := ⟨_, rfl⟩
  rw [← hRR] at c2 ⊢
  rw [← hPP] at c1 ⊢
  have hBR : B ≠ R := by omega
  have hPR : P ≠ R := by omega
  have lB : B < B + 1 + 1 + 1 := by omega
  have lP : P < B + 1 + 1 + 1 := by omega
  have lR : R < B + 1 + 1 + 1 := by omega
  have hRBl : B ≤ R := by omega
  have HRR := hide hRR
  have HPP := hide hPP
  clear hRR hPP
  have hAcc : Below (B + 1 + 1 + 1) W0 W0.drew := (Below.refl _ _).drew
  have k0 : ResI W0.drew B false sx := c0
  have k1 : ResI W0.drew P false sy := c1
  go_region_held3 (fun W => W.cell? ⟨B, 0, none⟩ = some (.bool false) ∧ W.cell? ⟨B, 1, none⟩ = some (.string sx) ∧ W.cell? ⟨P, 0, none⟩ = some (.bool false) ∧ W.cell? ⟨P, 1, none⟩ = some (.string sy))
    (first | with_reducible exact ⟨k0.c0, k0.c1, k1.c0, k1.c1⟩ | with_reducible exact ⟨(k0.other hBR _ _).c0, (k0.other hBR _ _).c1, (k1.other hPR _ _).c0, (k1.other hPR _ _).c1⟩)
    (first
      | (go_at_call 86; refine (HN.out _).mono ?_; rintro e w2 ⟨rfl, hB3⟩; replace hAcc := hAcc.trans (hB3.mono (Nat.le_trans (Nat.le_of_eq hs0.symm) hAcc.size)); replace k0 := c0.below hAcc lB; replace k1 := c1.below hAcc lP)
      | (go_at_call 31; refine (HA.out _).mono ?_; rintro e w2 ⟨rfl, hB3⟩; replace hAcc := hAcc.trans (hB3.mono (Nat.le_trans (Nat.le_of_eq hs0.symm) hAcc.size)); replace k0 := c0.below hAcc lB; replace k1 := c1.below hAcc lP; have q2 := c2.below hAcc lR; have y0 := q2.c0; have y1 := q2.c1; have z0 := q2.z0; have z1 := q2.z1))
  all_goals (
    go_wp2
    refine bodyPost_ret (ret_apiInt rfl _ _ R _ rfl ((c2.below hAcc lR).set_ _ _) rfl) rfl ?_
    refine ⟨rfl, ?_⟩
    rw [hBB]
    exact Below.pair (hB0.trans (hAcc.mono (by omega))) hRBl _ _)
set_option maxRecDepth 100000 in
set_option maxHeartbeats 2000000 in
theorem iCompare_ge (X Y : Nat) (hle : Y ≤ X) (hY : 0 < Y) (hbX : Sml X) (hbY : Sml Y) (w : World) :
    Calls Try.prog 34 #[.agg #[.bool false, .string (mg X)], .agg #[.bool false, .string (mg Y)]] w fun e w' => (∃ z : Int, e = .returned (.int .i64 z) ∧ 0 ≤ z) ∧ Below w.heap.size w w' := by
  have HS := hide (fun W => iSub_ge X Y hle hY hbX hbY W)
  generalize mg X = sx at HS ⊢
  generalize mg Y = sy at HS ⊢
  generalize mg (X - Y) = sd at HS
  obtain ⟨c0, c1, hs0, hB0⟩ := boxes2 w false false sx sy
  go_enter Try.func34, Try.ntmps34
  go_wp2_with fail
  generalize (w.alloc (.cells #[.bool false, .string sx] 39)).alloc (.cells #[.bool false, .string sy] 39) = W0 at c0 c1 hs0 hB0 ⊢
  refine (HS.out _).mono ?_
  rintro e W1 ⟨rfl, hB1⟩
  have hB2 := hB0.trans (hB1.mono hB0.size)
  have hB3 := hB2.alloc hB2.size (Obj.cells #[Value.bool false, Value.string sd] 39)
  by_cases hsd : sd = ⟨#[]⟩
  · subst hsd
    go_wp2
    all_goals (
      go_ret
      exact ⟨⟨_, rfl, by decide⟩, hB3⟩)
  · go_wp2
    all_goals (
      go_ret
      exact ⟨⟨_, rfl, by decide⟩, hB3⟩)
end Go.Proofs.Ytijeogengbphdaa
