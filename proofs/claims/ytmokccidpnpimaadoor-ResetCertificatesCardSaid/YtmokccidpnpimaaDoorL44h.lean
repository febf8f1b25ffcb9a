/- groovelaw44.ResetCertificates: its walk. -/
import Derived.Test.YtmokccidpnpimaaDoorLw44
import Derived.Test.YtmokccidpnpimaaDoorRCk
import Derived.Test.YtmokccidpnpimaaDoorCfII
set_option linter.unusedVariables false
namespace Go.Proofs.YtmokccidpnpimaaDoor
open Go.RowKit Go.Maps
theorem layO_small {L : Int} {rows : List (List Int)} (hg : grt L rows.length = false) : (layO L rows).length ≤ 4294967296 ∧ ∀ x ∈ layO L rows, x.length ≤ 4294967296 := by
  by_cases h0 : chkA L rows = 0
  · obtain ⟨l, rfl, hA⟩ := aut_of hg h0
    unfold layO
    split
    · refine ⟨?_, fun x hx => ?_⟩
      · rw [List.length_map, lays_len]
        have := first_size (rows := rows) (L := l) (S := fullS rows) hA (full_lt rows.length)
        have e : (fst44 rows (l : Int)).1.size ≤ 64 := this
        omega
      · obtain ⟨y, hy, rfl⟩ := List.mem_map.1 hx
        unfold lays at hy
        obtain ⟨j, _, rfl⟩ := List.mem_map.1 hy
        rw [ints_len]
        have := (layS_dif (rows := rows) (L := l) hA j).2.2
        have e : ((l : Int)).toNat = l := Int.toNat_natCast l
        rw [e]
        omega
    · exact ⟨Nat.zero_le _, fun x hx => by cases hx⟩
  · rw [(lay_bad h0).1]
    exact ⟨Nat.zero_le _, fun x hx => by cases hx⟩
set_option maxRecDepth 100000 in
set_option maxHeartbeats 8000000 in
theorem lCerts44_any (L : Int) (rows : List (List Int)) (A : Option Addr) (cc : Nat) (ds : List (List Int)) (D : Option Addr) (dc : Nat) (s : ByteArray) (w : World) (hR : RowD w A rows) (hD : RowD w D ds) (hT : TabZ w) (hb : rows.length ≤ 9223372036854775807) (hdb : ds.length ≤ 9223372036854775807) (hsb : s.size ≤ 9223372036854775807) :
    Calls Tryd.prog 3 #[.agg #[.int .i64 L, .slice A rows.length cc], .slice D ds.length dc, .string s] w fun e w' => e = .returned (.bool true) ∧ Below w.heap.size w w' := by
  have hB0 : Below w.heap.size w (w.alloc (Obj.cells #[.int .i64 L, .slice A rows.length cc] 24)) := (Below.refl _ w).alloc (Nat.le_refl _) _
  have HR := hide (hR.below hB0)
  have HT := hide (hT.below hB0)
  obtain ⟨B, hBB⟩ : ∃ B, w.heap.size = B := ⟨_, rfl⟩
  have hbx : BoxA (w.alloc (Obj.cells #[.int .i64 L, .slice A rows.length cc] 24)) B L A rows.length cc := by rw [← hBB]; exact heap_alloc_new w _
  have hsz : (w.alloc (Obj.cells #[.int .i64 L, .slice A rows.length cc] 24)).heap.size = B + 1 := by rw [← hBB]; simp
  have HG := hide (fun W => great44_any rows.length L A cc W)
  have HAW := hide (fun W h => awake44_any W h)
  have HTT := hide (fun W (h : Below (B + 1) (w.alloc (Obj.cells #[.int .i64 L, .slice A rows.length cc] 24)) W) => HT.out.below (h.mono (Nat.le_of_eq hsz)))
  have HRR := hide (fun W (h : Below (B + 1) (w.alloc (Obj.cells #[.int .i64 L, .slice A rows.length cc] 24)) W) => HR.out.below (h.mono (Nat.le_of_eq hsz)))
  have HD := hide (hD.below hB0)
  have HDD := hide (fun W (h : Below (B + 1) (w.alloc (Obj.cells #[.int .i64 L, .slice A rows.length cc] 24)) W) => HD.out.below (h.mono (Nat.le_of_eq hsz)))
  have HCF := hide (fun W (h : RowD W D ds) => cfIICerts_any ds D dc W h hdb)
  have k0 := hbx.c0
  have k1 := hbx.c1
  have hc1 : B + 1 ≤ (w.alloc (Obj.cells #[.int .i64 L, .slice A rows.length cc] 24)).heap.size := by omega
  have hB := Below.refl (B + 1) (w.alloc (Obj.cells #[.int .i64 L, .slice A rows.length cc] 24))
  have m0 := hbx.b0 hB
  have m1 := hbx.b1 hB
  clear hR hT hD
  cases hg : grt L rows.length with
  | true =>
    rw [hg] at HG
    clear hg
    go_enter Tryd.func3, Tryd.ntmps3
    go_wp2_with fail
    generalize w.alloc (Obj.cells #[.int .i64 L, .slice A rows.length cc] 24) = W1 at hB0 HR HT HRR HTT HD HDD hbx k0 k1 hsz hc1 hB m0 m1 ⊢
    go_wp2_with (first
      | (go_at_call 11; refine (HG.out _).mono ?_; rintro e w2 ⟨rfl, hX⟩; replace hB := Below.go hB hc1 hX; replace m0 := hbx.b0 hB; replace m1 := hbx.b1 hB)
      | (go_at_call 14; refine (HAW.out _ (HTT.out _ hB)).mono ?_; rintro e w3 ⟨rfl, hX⟩; replace hB := Below.go hB hc1 hX))
    go_ret
    exact ⟨rfl, hBB ▸ hB0.trans (hB.mono (by omega))⟩
  | false =>
    rw [hg] at HG
    by_cases h1 : ds.length ≤ 40
    · by_cases h2 : s.size ≤ 40
      · cases h4 : ds.any longB with
        | true =>
          rw [h4] at HCF
          clear hg h4
          go_enter Tryd.func3, Tryd.ntmps3
          go_wp2_with fail
          generalize w.alloc (Obj.cells #[.int .i64 L, .slice A rows.length cc] 24) = W1 at hB0 HR HT HRR HTT HD HDD hbx k0 k1 hsz hc1 hB m0 m1 ⊢
          go_wp2_with (first
            | (go_at_call 11; refine (HG.out _).mono ?_; rintro e w2 ⟨rfl, hX⟩; replace hB := Below.go hB hc1 hX; replace m0 := hbx.b0 hB; replace m1 := hbx.b1 hB)
            | (go_at_call 12; (with_reducible refine (HCF.out _ (HDD.out _ hB)).mono ?_); rintro e w6 ⟨rfl, rfl⟩)
            | (go_at_call 14; refine (HAW.out _ (HTT.out _ hB)).mono ?_; rintro e w3 ⟨rfl, hX⟩; replace hB := Below.go hB hc1 hX))
          go_ret
          exact ⟨rfl, hBB ▸ hB0.trans (hB.mono (by omega))⟩
        | false =>
          rw [h4] at HCF
          have hx : ∀ x ∈ ds, x.length ≤ 70 := fun x hx => by
            have := List.any_eq_false.1 h4 x hx
            unfold longB at this
            rw [decide_eq_true_iff] at this
            omega
          have H1 := hide (fun W (h : RowD W A rows) (hT : TabZ W) => zLayers_any L rows A cc W hg h hT hb)
          have H2 := hide (fun W (h : RowD W A rows) (hT : TabZ W) => zrLayers_any L rows A cc W hg h hT hb)
          have H3 := hide (fun W (h : RowD W A rows) (hT : TabZ W) (hD : RowD W D ds) => zCheckLayers_any L rows ds s A cc D dc W hg h hT hD hb hsb (by omega) hx)
          have H4 := hide (fun W (h : RowD W A rows) (hT : TabZ W) (hD : RowD W D ds) => zrCheckLayers_any L rows ds s A cc D dc W hg h hT hD hb hsb (by omega) hx)
          obtain ⟨o1, o2⟩ := layO_small hg
          generalize layO L rows = O at H1 H2 o1 o2
          generalize layE L rows = E at H1 H2
          generalize cklV L rows ds s.data.toList = V at H3 H4
          have HS := hide (fun A A' c c' W (h : RowD W A O) (h' : RowD W A' O) => sameSets_any O O A A' c c' W h h' o1 o1 o2 o2)
          simp only [decide_true] at HS
          clear hg h4 hx o2
          go_enter Tryd.func3, Tryd.ntmps3
          go_wp2_with fail
          generalize w.alloc (Obj.cells #[.int .i64 L, .slice A rows.length cc] 24) = W1 at hB0 HR HT HRR HTT HD HDD hbx k0 k1 hsz hc1 hB m0 m1 ⊢
          go_wp2_with (first
            | (go_at_call 11; refine (HG.out _).mono ?_; rintro e w2 ⟨rfl, hX⟩; replace hB := Below.go hB hc1 hX; replace m0 := hbx.b0 hB; replace m1 := hbx.b1 hB)
            | (go_at_call 12; (with_reducible refine (HCF.out _ (HDD.out _ hB)).mono ?_); rintro e w6 ⟨rfl, rfl⟩)
            | (go_at_call 15; (with_reducible refine (H1.out _ (HRR.out _ hB) (HTT.out _ hB)).mono ?_); rintro e w3 ⟨v3, rfl, hO3, hX3⟩; replace hB := Below.go hB hc1 hX3; replace m0 := hbx.b0 hB; replace m1 := hbx.b1 hB)
            | (go_at_call 16; (with_reducible refine (H2.out _ (HRR.out _ hB) (HTT.out _ hB)).mono ?_); rintro e w4 ⟨v4, rfl, hO4, hX4⟩; replace hB := Below.go hB hc1 hX4; replace m0 := hbx.b0 hB; replace m1 := hbx.b1 hB; obtain ⟨A3, c3, e3, hR3⟩ := (hO3.keepC (KeepC.below hX4)).row; obtain ⟨A4, c4, e4, hR4⟩ := hO4.row; subst e3; subst e4))
          have hAcc : Below (B + 1) W1 w4.drew := hB.drew
          replace m0 : w4.drew.cell? ⟨B, 0, none⟩ = some (.int .i64 L) := m0
          replace m1 : w4.drew.cell? ⟨B, 1, none⟩ = some (.slice A rows.length cc) := m1
          have hRd : Below w4.heap.size w4 w4.drew := (Below.refl _ _).drew
          have HR3 := hide hR3
          have HR4 := hide hR4
          clear hR3 hR4 hO3 hO4 hX3 hX4
          go_region_held3 (fun W => W.cell? ⟨B, 0, none⟩ = some (.int .i64 L) ∧ W.cell? ⟨B, 1, none⟩ = some (.slice A rows.length cc))
            (first | with_reducible exact ⟨m0, m1⟩)
            (first
              | (go_at_call 17; (with_reducible refine (HS.out A3 A4 c3 c4 _ (HR3.out.below hRd) (HR4.out.below hRd)).mono ?_); rintro e w7 ⟨rfl, q7, hw7⟩; replace hAcc : Below (B + 1) W1 w7 := (hw7.symm ▸ belowN hAcc q7); clear hw7; replace m0 := hbx.b0 hAcc; replace m1 := hbx.b1 hAcc)
              | (go_at_call 18; (with_reducible refine (H3.out _ (HRR.out _ hAcc) (HTT.out _ hAcc) (HDD.out _ hAcc)).mono ?_); rintro e w8 ⟨rfl, hX⟩; replace hAcc := Below.go hAcc hc1 hX; replace m0 := hbx.b0 hAcc; replace m1 := hbx.b1 hAcc)
              | (go_at_call 19; (with_reducible refine (H4.out _ (HRR.out _ hAcc) (HTT.out _ hAcc) (HDD.out _ hAcc)).mono ?_); rintro e w9 ⟨rfl, hX⟩; replace hAcc := Below.go hAcc hc1 hX; replace m0 := hbx.b0 hAcc; replace m1 := hbx.b1 hAcc)
              | (go_at_call 14; (with_reducible refine (HAW.out _ (HTT.out _ hAcc)).mono ?_); rintro e wa ⟨rfl, hX⟩; replace hAcc := Below.go hAcc hc1 hX; replace m0 := hbx.b0 hAcc; replace m1 := hbx.b1 hAcc))
          all_goals (
            go_wp2
            go_ret
            exact ⟨rfl, hBB ▸ hB0.trans (hAcc.mono (by omega))⟩)
      · have h2' : 40 < s.size := by omega
        clear hg h2
        go_enter Tryd.func3, Tryd.ntmps3
        go_wp2_with fail
        generalize w.alloc (Obj.cells #[.int .i64 L, .slice A rows.length cc] 24) = W1 at hB0 HR HT HRR HTT HD HDD hbx k0 k1 hsz hc1 hB m0 m1 ⊢
        go_wp2_with (first
          | (go_at_call 11; refine (HG.out _).mono ?_; rintro e w2 ⟨rfl, hX⟩; replace hB := Below.go hB hc1 hX; replace m0 := hbx.b0 hB; replace m1 := hbx.b1 hB)
          | (go_at_call 14; refine (HAW.out _ (HTT.out _ hB)).mono ?_; rintro e w3 ⟨rfl, hX⟩; replace hB := Below.go hB hc1 hX))
        go_ret
        exact ⟨rfl, hBB ▸ hB0.trans (hB.mono (by omega))⟩
    · have h1' : 40 < ds.length := by omega
      clear hg h1
      go_enter Tryd.func3, Tryd.ntmps3
      go_wp2_with fail
      generalize w.alloc (Obj.cells #[.int .i64 L, .slice A rows.length cc] 24) = W1 at hB0 HR HT HRR HTT HD HDD hbx k0 k1 hsz hc1 hB m0 m1 ⊢
      go_wp2_with (first
        | (go_at_call 11; refine (HG.out _).mono ?_; rintro e w2 ⟨rfl, hX⟩; replace hB := Below.go hB hc1 hX; replace m0 := hbx.b0 hB; replace m1 := hbx.b1 hB)
        | (go_at_call 14; refine (HAW.out _ (HTT.out _ hB)).mono ?_; rintro e w3 ⟨rfl, hX⟩; replace hB := Below.go hB hc1 hX))
      go_ret
      exact ⟨rfl, hBB ▸ hB0.trans (hB.mono (by omega))⟩
end Go.Proofs.YtmokccidpnpimaaDoor
