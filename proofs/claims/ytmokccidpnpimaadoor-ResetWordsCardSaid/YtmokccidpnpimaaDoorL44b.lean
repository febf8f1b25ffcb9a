/- groovelaw44.ResetWords: its walk. -/
import Derived.Test.YtmokccidpnpimaaDoorLw44
set_option linter.unusedVariables false
namespace Go.Proofs.YtmokccidpnpimaaDoor
open Go.RowKit Go.Maps
set_option maxRecDepth 100000 in
set_option maxHeartbeats 4000000 in
theorem lWords44_any (L : Int) (rows : List (List Int)) (A : Option Addr) (cc : Nat) (w : World) (hR : RowD w A rows) (hT : TabZ w) (hb : rows.length ≤ 9223372036854775807) :
    Calls Tryd.prog 10 #[.agg #[.int .i64 L, .slice A rows.length cc]] w fun e w' => e = .returned (.bool true) ∧ Below w.heap.size w w' := by
  have hB0 : Below w.heap.size w (w.alloc (Obj.cells #[.int .i64 L, .slice A rows.length cc] 24)) := (Below.refl _ w).alloc (Nat.le_refl _) _
  have HR := hide (hR.below hB0)
  have HT := hide (hT.below hB0)
  obtain ⟨B, hBB⟩ : ∃ B, w.heap.size = B := ⟨_, rfl⟩
  have hbx : BoxA (w.alloc (Obj.cells #[.int .i64 L, .slice A rows.length cc] 24)) B L A rows.length cc := by rw [← hBB]; exact heap_alloc_new w _
  have hsz : (w.alloc (Obj.cells #[.int .i64 L, .slice A rows.length cc] 24)).heap.size = B + 1 := by rw [← hBB]; simp
  have HG := hide (fun W => great44_any rows.length L A cc W)
  have HAW := hide (fun W h => awake44_any W h)
  clear hR hT
  cases hg : grt L rows.length with
  | true =>
    rw [hg] at HG
    have k0 := hbx.c0
    have k1 := hbx.c1
    clear hg
    go_enter Tryd.func10, Tryd.ntmps10
    go_wp2_with fail
    generalize w.alloc (Obj.cells #[.int .i64 L, .slice A rows.length cc] 24) = W1 at hB0 HR HT hbx k0 k1 hsz ⊢
    go_wp2_with (first
      | (go_at_call 11; refine (HG.out _).mono ?_; rintro e w2 ⟨rfl, hB2⟩)
      | (go_at_call 14; refine (HAW.out _ (HT.out.below hB2)).mono ?_; rintro e w3 ⟨rfl, hB3⟩))
    go_ret
    exact ⟨rfl, hBB ▸ hB0.trans ((hB2.trans (hB3.mono hB2.size)).mono (by omega))⟩
  | false =>
    rw [hg] at HG
    obtain ⟨v, is, e1, hv⟩ := shrV_form L rows
    obtain ⟨p, e2, hp⟩ := prsV_form L rows
    obtain ⟨x, e3, hx⟩ := gryV_form L rows
    have H1 := hide (fun W (h : RowD W A rows) (hT : TabZ W) => zShortest_any L rows A cc W hg h hT hb)
    have H2 := hide (fun W (h : RowD W A rows) (hT : TabZ W) => zrShortest_any L rows A cc W hg h hT hb)
    have H3 := hide (fun W (h : RowD W A rows) (hT : TabZ W) => zPairs_any L rows A cc W hg h hT hb)
    have H4 := hide (fun W (h : RowD W A rows) (hT : TabZ W) => zrPairs_any L rows A cc W hg h hT hb)
    have H5 := hide (fun W (h : RowD W A rows) (hT : TabZ W) => zGreedy_any L rows A cc W hg h hT hb)
    have H6 := hide (fun W (h : RowD W A rows) (hT : TabZ W) => zrGreedy_any L rows A cc W hg h hT hb)
    rw [hv] at H1 H2
    rw [hp] at H3 H4
    rw [hx] at H5 H6
    have k0 := hbx.c0
    have k1 := hbx.c1
    clear hg hv hp hx
    go_enter Tryd.func10, Tryd.ntmps10
    go_wp2_with fail
    generalize w.alloc (Obj.cells #[.int .i64 L, .slice A rows.length cc] 24) = W1 at hB0 HR HT hbx k0 k1 hsz ⊢
    have hc1 : B + 1 ≤ W1.heap.size := by omega
    have hB := Below.refl (B + 1) W1
    have HRR := hide (fun W (h : Below (B + 1) W1 W) => HR.out.below (h.mono (Nat.le_of_eq hsz)))
    have HTT := hide (fun W (h : Below (B + 1) W1 W) => HT.out.below (h.mono (Nat.le_of_eq hsz)))
    have m0 := hbx.b0 hB
    have m1 := hbx.b1 hB
    go_wp2_with (first
      | (go_at_call 11; refine (HG.out _).mono ?_; rintro e w2 ⟨rfl, hX⟩; replace hB := Below.go hB hc1 hX; replace m0 := hbx.b0 hB; replace m1 := hbx.b1 hB)
      | (go_at_call 22; refine (H1.out _ (HRR.out _ hB) (HTT.out _ hB)).mono ?_; rintro e w3 ⟨rfl, hX⟩; replace hB := Below.go hB hc1 hX; replace m0 := hbx.b0 hB; replace m1 := hbx.b1 hB)
      | (go_at_call 32; refine (H2.out _ (HRR.out _ hB) (HTT.out _ hB)).mono ?_; rintro e w3 ⟨rfl, hX⟩; replace hB := Below.go hB hc1 hX; replace m0 := hbx.b0 hB; replace m1 := hbx.b1 hB)
      | (go_at_call 25; refine (H3.out _ (HRR.out _ hB) (HTT.out _ hB)).mono ?_; rintro e w3 ⟨rfl, hX⟩; replace hB := Below.go hB hc1 hX; replace m0 := hbx.b0 hB; replace m1 := hbx.b1 hB)
      | (go_at_call 33; refine (H4.out _ (HRR.out _ hB) (HTT.out _ hB)).mono ?_; rintro e w3 ⟨rfl, hX⟩; replace hB := Below.go hB hc1 hX; replace m0 := hbx.b0 hB; replace m1 := hbx.b1 hB)
      | (go_at_call 26; refine (H5.out _ (HRR.out _ hB) (HTT.out _ hB)).mono ?_; rintro e w3 ⟨rfl, hX⟩; replace hB := Below.go hB hc1 hX; replace m0 := hbx.b0 hB; replace m1 := hbx.b1 hB)
      | (go_at_call 34; refine (H6.out _ (HRR.out _ hB) (HTT.out _ hB)).mono ?_; rintro e w3 ⟨rfl, hX⟩; replace hB := Below.go hB hc1 hX; replace m0 := hbx.b0 hB; replace m1 := hbx.b1 hB)
      | (go_at_call 14; refine (HAW.out _ (HTT.out _ hB)).mono ?_; rintro e w4 ⟨rfl, hX⟩; replace hB := Below.go hB hc1 hX))
    go_ret
    exact ⟨rfl, hBB ▸ hB0.trans (hB.mono (by omega))⟩
end Go.Proofs.YtmokccidpnpimaaDoor
