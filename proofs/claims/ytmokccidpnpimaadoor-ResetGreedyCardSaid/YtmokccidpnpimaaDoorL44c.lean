/- groovelaw44.ResetGreedy: its walk. -/
import Derived.Test.YtmokccidpnpimaaDoorLw44
import Derived.Test.YtmokccidpnpimaaDoorGreP
set_option linter.unusedVariables false
namespace Go.Proofs.YtmokccidpnpimaaDoor
open Go.RowKit Go.Maps
set_option maxRecDepth 100000 in
set_option maxHeartbeats 4000000 in
theorem lGreedy44_any (L : Int) (rows : List (List Int)) (A : Option Addr) (cc : Nat) (w : World) (hR : RowD w A rows) (hT : TabZ w) (hb : rows.length ≤ 9223372036854775807) :
    Calls Tryd.prog 7 #[.agg #[.int .i64 L, .slice A rows.length cc]] w fun e w' => e = .returned (.bool true) ∧ Below w.heap.size w w' := by
  have hB0 : Below w.heap.size w (w.alloc (Obj.cells #[.int .i64 L, .slice A rows.length cc] 24)) := (Below.refl _ w).alloc (Nat.le_refl _) _
  have HR := hide (hR.below hB0)
  have HT := hide (hT.below hB0)
  obtain ⟨B, hBB⟩ : ∃ B, w.heap.size = B := ⟨_, rfl⟩
  have hbx : BoxA (w.alloc (Obj.cells #[.int .i64 L, .slice A rows.length cc] 24)) B L A rows.length cc := by rw [← hBB]; exact heap_alloc_new w _
  have hsz : (w.alloc (Obj.cells #[.int .i64 L, .slice A rows.length cc] 24)).heap.size = B + 1 := by rw [← hBB]; simp
  have HG := hide (fun W => great44_any rows.length L A cc W)
  have HAW := hide (fun W h => awake44_any W h)
  have HTT := hide (fun W (h : Below (B + 1) (w.alloc (Obj.cells #[.int .i64 L, .slice A rows.length cc] 24)) W) => HT.out.below (h.mono (Nat.le_of_eq hsz)))
  have HRR := hide (fun W (h : Below (B + 1) (w.alloc (Obj.cells #[.int .i64 L, .slice A rows.length cc] 24)) W) => HR.out.below (h.mono (Nat.le_of_eq hsz)))
  have k0 := hbx.c0
  have k1 := hbx.c1
  have hc1 : B + 1 ≤ (w.alloc (Obj.cells #[.int .i64 L, .slice A rows.length cc] 24)).heap.size := by omega
  have hB := Below.refl (B + 1) (w.alloc (Obj.cells #[.int .i64 L, .slice A rows.length cc] 24))
  have m0 := hbx.b0 hB
  have m1 := hbx.b1 hB
  clear hR hT
  cases hg : grt L rows.length with
  | true =>
    rw [hg] at HG
    clear hg
    go_enter Tryd.func7, Tryd.ntmps7
    go_wp2_with fail
    generalize w.alloc (Obj.cells #[.int .i64 L, .slice A rows.length cc] 24) = W1 at hB0 HR HT HRR HTT hbx k0 k1 hsz hc1 hB m0 m1 ⊢
    go_wp2_with (first
      | (go_at_call 11; refine (HG.out _).mono ?_; rintro e w2 ⟨rfl, hX⟩; replace hB := Below.go hB hc1 hX)
      | (go_at_call 14; refine (HAW.out _ (HTT.out _ hB)).mono ?_; rintro e w3 ⟨rfl, hX⟩; replace hB := Below.go hB hc1 hX))
    go_ret
    exact ⟨rfl, hBB ▸ hB0.trans (hB.mono (by omega))⟩
  | false =>
    rw [hg] at HG
    have H1 := hide (fun W (h : RowD W A rows) (hT : TabZ W) => zShortest_any L rows A cc W hg h hT hb)
    have H2 := hide (fun W (h : RowD W A rows) (hT : TabZ W) => zGreedy_any L rows A cc W hg h hT hb)
    by_cases h0 : chkA L rows = 0
    · obtain ⟨l, rfl, hA⟩ := aut_of hg h0
      have hgf := gry_first hA
      rw [shrV_ok h0] at H1
      cases hf : (first rows l (fullS rows)).2 with
      | true =>
        rw [hf] at hgf
        obtain ⟨q1, q2, q3, q4⟩ := gry_ok hA hgf
        obtain ⟨o, ho⟩ : ∃ o, gry rows l = (o, true) := ⟨(gry rows l).1, by rw [← hgf]⟩
        rw [gryV_ok h0 ho] at H2
        rw [ho] at q1 q2 q3 q4
        obtain ⟨v, hv⟩ : ∃ v, first rows l (fullS rows) = (v, true) := ⟨(first rows l (fullS rows)).1, by rw [← hf]⟩
        rw [hv] at H1 q3
        have hq4 : o.size ≤ 448 := q4
        have hql : o.data.toList.length = o.size := by simp
        have hvf : vrf l rows o.data.toList = 0 := vrf_ok hA h0 (by omega) q1 q2
        have H3 := hide (fun W (h : RowD W A rows) (hT : TabZ W) => zVerify_any l rows o A cc W hg h hT hb (by omega))
        rw [hvf] at H3
        have hvo : decide (v.size ≤ o.size) = true := decide_eq_true q3
        have hvo2 : decide ((v.size : Int) ≤ (o.size : Int)) = true := decide_eq_true (by have : v.size ≤ o.size := q3; omega)
        clear hg hf hgf ho hv q1 q2 q3 q4 hvf h0 hA hql
        go_enter Tryd.func7, Tryd.ntmps7
        go_wp2_with fail
        generalize w.alloc (Obj.cells #[.int .i64 (l : Int), .slice A rows.length cc] 24) = W1 at hB0 HR HT HRR HTT hbx k0 k1 hsz hc1 hB m0 m1 ⊢
        go_wp2_with (first
          | (go_at_call 11; refine (HG.out _).mono ?_; rintro e w2 ⟨rfl, hX⟩; replace hB := Below.go hB hc1 hX; replace m0 := hbx.b0 hB; replace m1 := hbx.b1 hB)
          | (go_at_call 26; refine (H2.out _ (HRR.out _ hB) (HTT.out _ hB)).mono ?_; rintro e w2 ⟨rfl, hX⟩; replace hB := Below.go hB hc1 hX; replace m0 := hbx.b0 hB; replace m1 := hbx.b1 hB)
          | (go_at_call 22; refine (H1.out _ (HRR.out _ hB) (HTT.out _ hB)).mono ?_; rintro e w2 ⟨rfl, hX⟩; replace hB := Below.go hB hc1 hX; replace m0 := hbx.b0 hB; replace m1 := hbx.b1 hB)
          | (go_at_call 24; refine (H3.out _ (HRR.out _ hB) (HTT.out _ hB)).mono ?_; rintro e w2 ⟨rfl, hX⟩; replace hB := Below.go hB hc1 hX; replace m0 := hbx.b0 hB; replace m1 := hbx.b1 hB)
          | (go_at_call 14; refine (HAW.out _ (HTT.out _ hB)).mono ?_; rintro e w3 ⟨rfl, hX⟩; replace hB := Below.go hB hc1 hX))
        go_ret
        exact ⟨rfl, hBB ▸ hB0.trans (hB.mono (by omega))⟩
      | false =>
        rw [hf] at hgf
        rw [gryV_no h0 hgf] at H2
        have hv : first rows l (fullS rows) = (⟨#[]⟩, false) := by rw [← hf, ← first_no hf]
        rw [hv] at H1
        clear hg hf hgf hv h0 hA
        go_enter Tryd.func7, Tryd.ntmps7
        go_wp2_with fail
        generalize w.alloc (Obj.cells #[.int .i64 (l : Int), .slice A rows.length cc] 24) = W1 at hB0 HR HT HRR HTT hbx k0 k1 hsz hc1 hB m0 m1 ⊢
        go_wp2_with (first
          | (go_at_call 11; refine (HG.out _).mono ?_; rintro e w2 ⟨rfl, hX⟩; replace hB := Below.go hB hc1 hX; replace m0 := hbx.b0 hB; replace m1 := hbx.b1 hB)
          | (go_at_call 26; refine (H2.out _ (HRR.out _ hB) (HTT.out _ hB)).mono ?_; rintro e w2 ⟨rfl, hX⟩; replace hB := Below.go hB hc1 hX; replace m0 := hbx.b0 hB; replace m1 := hbx.b1 hB)
          | (go_at_call 22; refine (H1.out _ (HRR.out _ hB) (HTT.out _ hB)).mono ?_; rintro e w2 ⟨rfl, hX⟩; replace hB := Below.go hB hc1 hX; replace m0 := hbx.b0 hB; replace m1 := hbx.b1 hB)
          | (go_at_call 14; refine (HAW.out _ (HTT.out _ hB)).mono ?_; rintro e w3 ⟨rfl, hX⟩; replace hB := Below.go hB hc1 hX))
        go_ret
        exact ⟨rfl, hBB ▸ hB0.trans (hB.mono (by omega))⟩
    · rw [shrV_bad h0] at H1
      rw [gryV_bad h0] at H2
      clear hg h0
      go_enter Tryd.func7, Tryd.ntmps7
      go_wp2_with fail
      generalize w.alloc (Obj.cells #[.int .i64 L, .slice A rows.length cc] 24) = W1 at hB0 HR HT HRR HTT hbx k0 k1 hsz hc1 hB m0 m1 ⊢
      go_wp2_with (first
        | (go_at_call 11; refine (HG.out _).mono ?_; rintro e w2 ⟨rfl, hX⟩; replace hB := Below.go hB hc1 hX; replace m0 := hbx.b0 hB; replace m1 := hbx.b1 hB)
        | (go_at_call 26; refine (H2.out _ (HRR.out _ hB) (HTT.out _ hB)).mono ?_; rintro e w2 ⟨rfl, hX⟩; replace hB := Below.go hB hc1 hX; replace m0 := hbx.b0 hB; replace m1 := hbx.b1 hB)
        | (go_at_call 22; refine (H1.out _ (HRR.out _ hB) (HTT.out _ hB)).mono ?_; rintro e w2 ⟨rfl, hX⟩; replace hB := Below.go hB hc1 hX; replace m0 := hbx.b0 hB; replace m1 := hbx.b1 hB)
        | (go_at_call 14; refine (HAW.out _ (HTT.out _ hB)).mono ?_; rintro e w3 ⟨rfl, hX⟩; replace hB := Below.go hB hc1 hX))
      go_ret
      exact ⟨rfl, hBB ▸ hB0.trans (hB.mono (by omega))⟩
end Go.Proofs.YtmokccidpnpimaaDoor
