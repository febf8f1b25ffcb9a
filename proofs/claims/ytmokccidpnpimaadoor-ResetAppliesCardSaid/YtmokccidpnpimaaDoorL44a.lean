/- groovelaw44.ResetApplies: its walk. -/
import Derived.Test.YtmokccidpnpimaaDoorLw44
set_option linter.unusedVariables false
namespace Go.Proofs.YtmokccidpnpimaaDoor
open Go.RowKit Go.Maps
set_option maxRecDepth 100000 in
set_option maxHeartbeats 4000000 in
theorem lApplies44_any (L : Int) (rows : List (List Int)) (A : Option Addr) (cc : Nat) (set : List Int) (D : Option Addr) (dc : Nat) (s : ByteArray) (w : World) (hR : RowD w A rows) (hD : RowI w D set) (hT : TabZ w) (hb : rows.length ≤ 9223372036854775807) (hdb : set.length ≤ 9223372036854775807) (hsb : s.size ≤ 9223372036854775807) :
    Calls Tryd.prog 8 #[.agg #[.int .i64 L, .slice A rows.length cc], .slice D set.length dc, .string s] w fun e w' => e = .returned (.bool true) ∧ Below w.heap.size w w' := by
  have hB0 : Below w.heap.size w (w.alloc (Obj.cells #[.int .i64 L, .slice A rows.length cc] 24)) := (Below.refl _ w).alloc (Nat.le_refl _) _
  have HR := hide (hR.below hB0)
  have HT := hide (hT.below hB0)
  have HD := hide (hD.below hB0)
  obtain ⟨B, hBB⟩ : ∃ B, w.heap.size = B := ⟨_, rfl⟩
  have hbx : BoxA (w.alloc (Obj.cells #[.int .i64 L, .slice A rows.length cc] 24)) B L A rows.length cc := by rw [← hBB]; exact heap_alloc_new w _
  have hsz : (w.alloc (Obj.cells #[.int .i64 L, .slice A rows.length cc] 24)).heap.size = B + 1 := by rw [← hBB]; simp
  have HG := hide (fun W => great44_any rows.length L A cc W)
  have HAW := hide (fun W h => awake44_any W h)
  have HTT := hide (fun W (h : Below (B + 1) (w.alloc (Obj.cells #[.int .i64 L, .slice A rows.length cc] 24)) W) => HT.out.below (h.mono (Nat.le_of_eq hsz)))
  have HRR := hide (fun W (h : Below (B + 1) (w.alloc (Obj.cells #[.int .i64 L, .slice A rows.length cc] 24)) W) => HR.out.below (h.mono (Nat.le_of_eq hsz)))
  have HDD := hide (fun W (h : Below (B + 1) (w.alloc (Obj.cells #[.int .i64 L, .slice A rows.length cc] 24)) W) => HD.out.below (h.mono (Nat.le_of_eq hsz)))
  have k0 := hbx.c0
  have k1 := hbx.c1
  have hc1 : B + 1 ≤ (w.alloc (Obj.cells #[.int .i64 L, .slice A rows.length cc] 24)).heap.size := by omega
  have hB := Below.refl (B + 1) (w.alloc (Obj.cells #[.int .i64 L, .slice A rows.length cc] 24))
  have m0 := hbx.b0 hB
  have m1 := hbx.b1 hB
  clear hR hT hD
  by_cases hgo : grt L rows.length = false ∧ s.size ≤ 40 ∧ set.length ≤ 20
  · obtain ⟨hg, hs, hl⟩ := hgo
    rw [hg] at HG
    have H1 := hide (fun W (h : RowD W A rows) (hT : TabZ W) (hD : RowI W D set) => zApply_any L rows set s A cc D dc W hg h hT hD hb hsb hdb)
    have H2 := hide (fun W (h : RowD W A rows) (hT : TabZ W) (hD : RowI W D set) => zrApply_any L rows set s A cc D dc W hg h hT hD hb hsb hdb)
    have H3 := hide (fun W (h : RowD W A rows) => zCheck_any L rows A cc W h hb)
    have H4 := hide (fun W (h : RowD W A rows) => zrCheck_any L rows A cc W h hb)
    have H5 := hide (fun W (h : RowD W A rows) (hT : TabZ W) => zVerify_any L rows s A cc W hg h hT hb hsb)
    have H6 := hide (fun W (h : RowD W A rows) (hT : TabZ W) => zrVerify_any L rows s A cc W hg h hT hb hsb)
    have hO : (apyO L rows set s.data.toList).length ≤ 4294967296 := by
      unfold apyO
      split
      · rw [ints_len]; have := stsK_len (led rows (numK set set.length) s.data.toList) 6; omega
      · exact Nat.zero_le _
    generalize apyO L rows set s.data.toList = O at H1 H2 hO
    generalize apyE L rows set s.data.toList = E at H1 H2
    generalize chkA L rows = C at H3 H4
    generalize vrf L rows s.data.toList = V at H5 H6
    have HS := hide (fun A A' c c' W (h : RowI W A O) (h' : RowI W A' O) => same12_any O O A A' c c' W h h' hO hO)
    simp only [decide_true] at HS
    clear hg
    go_enter Tryd.func8, Tryd.ntmps8
    go_wp2_with fail
    generalize w.alloc (Obj.cells #[.int .i64 L, .slice A rows.length cc] 24) = W1 at hB0 HR HT HD HRR HTT HDD hbx k0 k1 hsz hc1 hB m0 m1 ⊢
    go_wp2_with (first
      | (go_at_call 11; refine (HG.out _).mono ?_; rintro e w2 ⟨rfl, hX⟩; replace hB := Below.go hB hc1 hX; replace m0 := hbx.b0 hB; replace m1 := hbx.b1 hB)
      | (go_at_call 27; refine (H1.out _ (HRR.out _ hB) (HTT.out _ hB) (HDD.out _ hB)).mono ?_; rintro e w3 ⟨v3, rfl, hI3, hX3⟩; replace hB := Below.go hB hc1 hX3; replace m0 := hbx.b0 hB; replace m1 := hbx.b1 hB)
      | (go_at_call 28; refine (H2.out _ (HRR.out _ hB) (HTT.out _ hB) (HDD.out _ hB)).mono ?_; rintro e w4 ⟨v4, rfl, hI4, hX4⟩; replace hB := Below.go hB hc1 hX4; replace m0 := hbx.b0 hB; replace m1 := hbx.b1 hB; obtain ⟨A3, c3, e3, hR3⟩ := (hI3.below hX4 (Nat.le_refl _)).row; obtain ⟨A4, c4, e4, hR4⟩ := hI4.row; subst e3; subst e4))
    have hAcc : Below (B + 1) W1 w4.drew := hB.drew
    replace m0 : w4.drew.cell? ⟨B, 0, none⟩ = some (.int .i64 L) := m0
    replace m1 : w4.drew.cell? ⟨B, 1, none⟩ = some (.slice A rows.length cc) := m1
    have hRd : Below w4.heap.size w4 w4.drew := (Below.refl _ _).drew
    have HR3 := hide hR3
    have HR4 := hide hR4
    clear hR3 hR4 hI3 hI4 hX3 hX4
    go_region_held3 (fun W => W.cell? ⟨B, 0, none⟩ = some (.int .i64 L) ∧ W.cell? ⟨B, 1, none⟩ = some (.slice A rows.length cc))
      (first | with_reducible exact ⟨m0, m1⟩)
      (first
        | (go_at_call 29; (with_reducible refine (H3.out _ (HRR.out _ hAcc)).mono ?_); rintro e w5 ⟨rfl, hX⟩; replace hAcc := Below.go hAcc hc1 hX; replace m0 := hbx.b0 hAcc; replace m1 := hbx.b1 hAcc; replace hRd := hRd.trans (hX.mono hRd.size))
        | (go_at_call 20; (with_reducible refine (H4.out _ (HRR.out _ hAcc)).mono ?_); rintro e w6 ⟨rfl, hX⟩; replace hAcc := Below.go hAcc hc1 hX; replace m0 := hbx.b0 hAcc; replace m1 := hbx.b1 hAcc; replace hRd := hRd.trans (hX.mono hRd.size))
        | (go_at_call 30; (with_reducible refine (HS.out A3 A4 c3 c4 _ (HR3.out.below hRd) (HR4.out.below hRd)).mono ?_); rintro e w7 ⟨rfl, q7, rfl⟩; replace hAcc := belowN hAcc q7; replace m0 := hbx.b0 hAcc; replace m1 := hbx.b1 hAcc)
        | (go_at_call 24; (with_reducible refine (H5.out _ (HRR.out _ hAcc) (HTT.out _ hAcc)).mono ?_); rintro e w8 ⟨rfl, hX⟩; replace hAcc := Below.go hAcc hc1 hX; replace m0 := hbx.b0 hAcc; replace m1 := hbx.b1 hAcc)
        | (go_at_call 31; (with_reducible refine (H6.out _ (HRR.out _ hAcc) (HTT.out _ hAcc)).mono ?_); rintro e w9 ⟨rfl, hX⟩; replace hAcc := Below.go hAcc hc1 hX; replace m0 := hbx.b0 hAcc; replace m1 := hbx.b1 hAcc)
        | (go_at_call 14; (with_reducible refine (HAW.out _ (HTT.out _ hAcc)).mono ?_); rintro e wa ⟨rfl, hX⟩; replace hAcc := Below.go hAcc hc1 hX; replace m0 := hbx.b0 hAcc; replace m1 := hbx.b1 hAcc))
    all_goals (
      go_wp2
      go_ret
      exact ⟨rfl, hBB ▸ hB0.trans (hAcc.mono (by omega))⟩)
  · cases hg : grt L rows.length with
    | true =>
      rw [hg] at HG
      clear hg hgo
      go_enter Tryd.func8, Tryd.ntmps8
      go_wp2_with fail
      generalize w.alloc (Obj.cells #[.int .i64 L, .slice A rows.length cc] 24) = W1 at hB0 HR HT HD HRR HTT HDD hbx k0 k1 hsz hc1 hB m0 m1 ⊢
      go_wp2_with (first
        | (go_at_call 11; refine (HG.out _).mono ?_; rintro e w2 ⟨rfl, hX⟩; replace hB := Below.go hB hc1 hX)
        | (go_at_call 14; refine (HAW.out _ (HTT.out _ hB)).mono ?_; rintro e w3 ⟨rfl, hX⟩; replace hB := Below.go hB hc1 hX))
      go_ret
      exact ⟨rfl, hBB ▸ hB0.trans (hB.mono (by omega))⟩
    | false =>
      rw [hg] at HG
      by_cases hs : s.size ≤ 40
      · have hl : 20 < set.length := by
          rcases Nat.lt_or_ge 20 set.length with e | e
          · exact e
          · exact absurd ⟨hg, hs, e⟩ hgo
        clear hg hgo
        go_enter Tryd.func8, Tryd.ntmps8
        go_wp2_with fail
        generalize w.alloc (Obj.cells #[.int .i64 L, .slice A rows.length cc] 24) = W1 at hB0 HR HT HD HRR HTT HDD hbx k0 k1 hsz hc1 hB m0 m1 ⊢
        go_wp2_with (first
          | (go_at_call 11; refine (HG.out _).mono ?_; rintro e w2 ⟨rfl, hX⟩; replace hB := Below.go hB hc1 hX)
          | (go_at_call 14; refine (HAW.out _ (HTT.out _ hB)).mono ?_; rintro e w3 ⟨rfl, hX⟩; replace hB := Below.go hB hc1 hX))
        go_ret
        exact ⟨rfl, hBB ▸ hB0.trans (hB.mono (by omega))⟩
      · have hs2 : 40 < s.size := by omega
        clear hg hgo
        go_enter Tryd.func8, Tryd.ntmps8
        go_wp2_with fail
        generalize w.alloc (Obj.cells #[.int .i64 L, .slice A rows.length cc] 24) = W1 at hB0 HR HT HD HRR HTT HDD hbx k0 k1 hsz hc1 hB m0 m1 ⊢
        go_wp2_with (first
          | (go_at_call 11; refine (HG.out _).mono ?_; rintro e w2 ⟨rfl, hX⟩; replace hB := Below.go hB hc1 hX)
          | (go_at_call 14; refine (HAW.out _ (HTT.out _ hB)).mono ?_; rintro e w3 ⟨rfl, hX⟩; replace hB := Below.go hB hc1 hX))
        go_ret
        exact ⟨rfl, hBB ▸ hB0.trans (hB.mono (by omega))⟩
end Go.Proofs.YtmokccidpnpimaaDoor
