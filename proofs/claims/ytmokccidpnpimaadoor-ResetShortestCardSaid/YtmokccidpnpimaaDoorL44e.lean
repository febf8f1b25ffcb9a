/- groovelaw44.ResetShortest: its walk. -/
import Derived.Test.YtmokccidpnpimaaDoorLw44
import Derived.Test.YtmokccidpnpimaaDoorFraP
import Derived.Laws.Cover1
set_option linter.unusedVariables false
namespace Go.Proofs.YtmokccidpnpimaaDoor
open Go.RowKit Go.Maps
set_option maxRecDepth 100000 in
set_option maxHeartbeats 8000000 in
theorem lShortest44_any (L : Int) (rows : List (List Int)) (A : Option Addr) (cc : Nat) (s : ByteArray) (w : World) (hR : RowD w A rows) (hT : TabZ w) (hb : rows.length ≤ 9223372036854775807) (hsb : s.size ≤ 9223372036854775807) :
    Calls Tryd.prog 6 #[.agg #[.int .i64 L, .slice A rows.length cc], .string s] w fun e w' => e = .returned (.bool true) ∧ Below w.heap.size w w' := by
  have hB0 : Below w.heap.size w (w.alloc (Obj.cells #[.int .i64 L, .slice A rows.length cc] 24)) := (Below.refl _ w).alloc (Nat.le_refl _) _
  have HR := hide (hR.below hB0)
  have HT := hide (hT.below hB0)
  obtain ⟨B, hBB⟩ : ∃ B, w.heap.size = B := ⟨_, rfl⟩
  have hbx : BoxA (w.alloc (Obj.cells #[.int .i64 L, .slice A rows.length cc] 24)) B L A rows.length cc := by rw [← hBB]; exact heap_alloc_new w _
  have hsz : (w.alloc (Obj.cells #[.int .i64 L, .slice A rows.length cc] 24)).heap.size = B + 1 := by rw [← hBB]; simp
  have HG := hide (fun W => great44_any rows.length L A cc W)
  have HAW := hide (fun W h => awake44_any W h)
  have HTT := hide (fun W (h : Below (B + 1) (w.alloc (Obj.cells #[.int .i64 L, .slice A rows.length cc] 24)) W) => HT.out.below (h.mono (Nat.le_of_eq hsz)))
  have HRR := hide (fun W (h : Below (B + 1) (w.alloc (Obj.cells #[.int .i64 L, .slice A rows.length cc] 24)) W) => HR.out.below (h.mono (Nat.le_of_eq hsz)))
  have k0 := hbx.c0
  have k1 := hbx.c1
  have hc1 : B + 1 ≤ (w.alloc (Obj.cells #[.int .i64 L, .slice A rows.length cc] 24)).heap.size := by omega
  have hB := Below.refl (B + 1) (w.alloc (Obj.cells #[.int .i64 L, .slice A rows.length cc] 24))
  have m0 := hbx.b0 hB
  have m1 := hbx.b1 hB
  clear hR hT
  cases hg : grt L rows.length with
  | true =>
    rw [hg] at HG
    clear hg
    go_enter Tryd.func6, Tryd.ntmps6
    go_wp2_with fail
    generalize w.alloc (Obj.cells #[.int .i64 L, .slice A rows.length cc] 24) = W1 at hB0 HR HT HRR HTT hbx k0 k1 hsz hc1 hB m0 m1 ⊢
    go_wp2_with (first
      | (go_at_call 11; refine (HG.out _).mono ?_; rintro e w2 ⟨rfl, hX⟩; replace hB := Below.go hB hc1 hX; replace m0 := hbx.b0 hB; replace m1 := hbx.b1 hB)
      | (go_at_call 14; refine (HAW.out _ (HTT.out _ hB)).mono ?_; rintro e w3 ⟨rfl, hX⟩; replace hB := Below.go hB hc1 hX))
    go_ret
    exact ⟨rfl, hBB ▸ hB0.trans (hB.mono (by omega))⟩
  | false =>
    rw [hg] at HG
    by_cases hs : s.size ≤ 8
    · have H1 := hide (fun W (h : RowD W A rows) (hT : TabZ W) => zShortest_any L rows A cc W hg h hT hb)
      have H2 := hide (fun W (h : RowD W A rows) (hT : TabZ W) => zPairs_any L rows A cc W hg h hT hb)
      by_cases h0 : chkA L rows = 0
      · obtain ⟨l, rfl, hA⟩ := aut_of hg h0
        rw [shrV_ok h0] at H1
        rw [prsV_ok h0, prB_first hA] at H2
        have HK := hide (fun W => rcheck_any l s W)
        have HW := hide (fun W (h : RowD W A rows) (hT : TabZ W) => zVerify_any l rows s A cc W hg h hT hb hsb)
        obtain ⟨f, is, hf⟩ : ∃ f is, first rows l (fullS rows) = (f, is) := ⟨_, _, rfl⟩
        rw [hf] at H1 H2
        have hsl : s.data.toList.length = s.size := by simp
        have HL := hide (fun (hk : chk l s.data.toList = 0) (hv : vrf l rows s.data.toList = 0) => by
          have hW := okw_of hk
          have hc : ckw l rows s.data.toList = 0 := by unfold ckw; rw [if_pos h0]; exact hk
          rw [vrf_good hc] at hv
          have h1 : sglB (led rows (fullS rows) s.data.toList) = true := by
            cases e : sglB (led rows (fullS rows) s.data.toList) with
            | true => rfl
            | false =>
              rw [show 2 ^ rows.length - 1 = fullS rows from rfl, e] at hv
              exact absurd hv (by decide)
          have := first_least hA hW h1
          rw [hf] at this
          exact this)
        have hn := hA.n6
        have hn1 := hA.n1
        cases is with
        | true =>
          have h1 := first_from hA.L16 (by rw [hf] : (first rows l (fullS rows)).2 = true)
          rw [hf] at h1
          have h2 := first_size (rows := rows) (L := l) (S := fullS rows) hA (full_lt2 rows)
          rw [hf] at h2
          have h3 := first_bound hA (by rw [hf] : (first rows l (fullS rows)).2 = true)
          rw [hf] at h3
          have hf64 : f.size ≤ 64 := h2
          have hfl : f.data.toList.length = f.size := by simp
          have hfv : vrf l rows f.data.toList = 0 := vrf_ok hA h0 (by omega) h1.1 h1.2
          have HV := hide (fun W (h : RowD W A rows) (hT : TabZ W) => zVerify_any l rows f A cc W hg h hT hb (by omega))
          rw [hfv] at HV
          obtain ⟨N, hN⟩ : ∃ N, rows.length = N := ⟨_, rfl⟩
          have hn3 : rows.length * rows.length * rows.length ≤ 216 ∧ rows.length * rows.length ≤ 36 := by
            rw [hN] at hn hn1 ⊢
            have : ∀ N, N ≤ 6 → N * N * N ≤ 216 ∧ N * N ≤ 36 := by decide
            exact this N hn
          obtain ⟨N2, hN2⟩ : ∃ N2, rows.length * rows.length = N2 := ⟨_, rfl⟩
          obtain ⟨N3, hN3⟩ : ∃ N3, rows.length * rows.length * rows.length = N3 := ⟨_, rfl⟩
          have hb3 : 6 * f.size + rows.length ≤ N3 := by rw [← hN3]; exact h3
          have hb4 : N3 ≤ 216 := by rw [← hN3]; exact hn3.1
          have hb5 : N2 ≤ 36 := by rw [← hN2]; exact hn3.2
          have q1 : (rows.length : Int) * (rows.length : Int) = (N2 : Int) := by rw [← hN2]; simp
          have q2 : (N2 : Int) * (rows.length : Int) = (N3 : Int) := by rw [← hN3, ← hN2]; simp
          have q3 : decide ((N3 : Int) - (rows.length : Int) < 6 * (f.size : Int)) = false := decide_eq_false (by omega)
          have q4 : ¬ ((N3 : Int) - (rows.length : Int) < 6 * (f.size : Int)) := by omega
          have q5 : IntKind.i64.wrap (N2 : Int) = (N2 : Int) := IntWalk.i64_in _ (by omega)
          have q6 : IntKind.i64.wrap (N3 : Int) = (N3 : Int) := IntWalk.i64_in _ (by omega)
          have q7 : IntKind.i64.wrap ((N3 : Int) - (rows.length : Int)) = (N3 : Int) - (rows.length : Int) := IntWalk.i64_in _ (by omega)
          have q8 : IntKind.i64.wrap (6 * (f.size : Int)) = 6 * (f.size : Int) := IntWalk.i64_in _ (by omega)
          clear hN hN2 hN3 h1 h2 h3 hfv hf hn3 hb3
          by_cases hk : chk l s.data.toList = 0
          · by_cases hv : vrf l rows s.data.toList = 0
            · obtain ⟨_, hle⟩ := HL.out hk hv
              rw [hk] at HK
              rw [hv] at HW
              replace hle : f.data.toList.length < s.data.toList.length ∨ f.data.toList.length = s.data.toList.length ∧ (f.data.toList = s.data.toList ∨ f.data.toList < s.data.toList) := hle
              rw [hfl, hsl] at hle
              clear HL hk hv hg h0 hA hsl hfl
              by_cases hlt : f.size < s.size
              · have d1 : decide (f.size < s.size) = true := decide_eq_true hlt
                clear hle
                go_enter Tryd.func6, Tryd.ntmps6
                go_wp2_with fail
                generalize w.alloc (Obj.cells #[.int .i64 (l : Int), .slice A rows.length cc] 24) = W1 at hB0 HR HT HRR HTT hbx k0 k1 hsz hc1 hB m0 m1 ⊢
                go_wp2_with (first
                  | (go_at_call 11; refine (HG.out _).mono ?_; rintro e w2 ⟨rfl, hX⟩; replace hB := Below.go hB hc1 hX; replace m0 := hbx.b0 hB; replace m1 := hbx.b1 hB)
                  | (go_at_call 22; (with_reducible refine (H1.out _ (HRR.out _ hB) (HTT.out _ hB)).mono ?_); rintro e w4 ⟨rfl, hX⟩; replace hB := Below.go hB hc1 hX; replace m0 := hbx.b0 hB; replace m1 := hbx.b1 hB)
                  | (go_at_call 25; (with_reducible refine (H2.out _ (HRR.out _ hB) (HTT.out _ hB)).mono ?_); rintro e w4 ⟨rfl, hX⟩; replace hB := Below.go hB hc1 hX; replace m0 := hbx.b0 hB; replace m1 := hbx.b1 hB)
                  | (go_at_call 24; (with_reducible refine (HV.out _ (HRR.out _ hB) (HTT.out _ hB)).mono ?_); rintro e w4 ⟨rfl, hX⟩; replace hB := Below.go hB hc1 hX; replace m0 := hbx.b0 hB; replace m1 := hbx.b1 hB)
                  | (go_at_call 21; (with_reducible refine (HK.out _).mono ?_); rintro e w5 ⟨rfl, rfl⟩)
                  | (go_at_call 24; (with_reducible refine (HW.out _ (HRR.out _ hB) (HTT.out _ hB)).mono ?_); rintro e w8 ⟨rfl, hX⟩; replace hB := Below.go hB hc1 hX; replace m0 := hbx.b0 hB; replace m1 := hbx.b1 hB)
                  | (go_at_call 14; refine (HAW.out _ (HTT.out _ hB)).mono ?_; rintro e w3 ⟨rfl, hX⟩; replace hB := Below.go hB hc1 hX))
                go_ret
                exact ⟨rfl, hBB ▸ hB0.trans (hB.mono (by omega))⟩
              · have heq : f.size = s.size := by omega
                have d1 : decide (f.size < s.size) = false := decide_eq_false hlt
                have d2 : ((f.size : Int) == (s.size : Int)) = true := by rw [beq_iff_eq]; omega
                have hle2 := (hle.resolve_left hlt).2
                rcases hle2 with hle2 | hle2
                · obtain rfl : f = s := ByteArray.ext (Array.ext' hle2)
                  clear hle hle2 heq hlt
                  go_enter Tryd.func6, Tryd.ntmps6
                  go_wp2_with fail
                  generalize w.alloc (Obj.cells #[.int .i64 (l : Int), .slice A rows.length cc] 24) = W1 at hB0 HR HT HRR HTT hbx k0 k1 hsz hc1 hB m0 m1 ⊢
                  go_wp2_with (first
                    | (go_at_call 11; refine (HG.out _).mono ?_; rintro e w2 ⟨rfl, hX⟩; replace hB := Below.go hB hc1 hX; replace m0 := hbx.b0 hB; replace m1 := hbx.b1 hB)
                    | (go_at_call 22; (with_reducible refine (H1.out _ (HRR.out _ hB) (HTT.out _ hB)).mono ?_); rintro e w4 ⟨rfl, hX⟩; replace hB := Below.go hB hc1 hX; replace m0 := hbx.b0 hB; replace m1 := hbx.b1 hB)
                    | (go_at_call 25; (with_reducible refine (H2.out _ (HRR.out _ hB) (HTT.out _ hB)).mono ?_); rintro e w4 ⟨rfl, hX⟩; replace hB := Below.go hB hc1 hX; replace m0 := hbx.b0 hB; replace m1 := hbx.b1 hB)
                    | (go_at_call 24; (with_reducible refine (HV.out _ (HRR.out _ hB) (HTT.out _ hB)).mono ?_); rintro e w4 ⟨rfl, hX⟩; replace hB := Below.go hB hc1 hX; replace m0 := hbx.b0 hB; replace m1 := hbx.b1 hB)
                    | (go_at_call 21; (with_reducible refine (HK.out _).mono ?_); rintro e w5 ⟨rfl, rfl⟩)
                    | (go_at_call 24; (with_reducible refine (HW.out _ (HRR.out _ hB) (HTT.out _ hB)).mono ?_); rintro e w8 ⟨rfl, hX⟩; replace hB := Below.go hB hc1 hX; replace m0 := hbx.b0 hB; replace m1 := hbx.b1 hB)
                    | (go_at_call 14; refine (HAW.out _ (HTT.out _ hB)).mono ?_; rintro e w3 ⟨rfl, hX⟩; replace hB := Below.go hB hc1 hX))
                  go_ret
                  exact ⟨rfl, hBB ▸ hB0.trans (hB.mono (by omega))⟩
                · have d3 : Op.bytesLess f.toList s.toList = true := by rw [bytesLess_eq, decide_eq_true_iff, ByteArray.toList_eq, ByteArray.toList_eq]; exact hle2
                  clear hle hle2 heq hlt
                  go_enter Tryd.func6, Tryd.ntmps6
                  go_wp2_with fail
                  generalize w.alloc (Obj.cells #[.int .i64 (l : Int), .slice A rows.length cc] 24) = W1 at hB0 HR HT HRR HTT hbx k0 k1 hsz hc1 hB m0 m1 ⊢
                  go_wp2_with (first
                    | (go_at_call 11; refine (HG.out _).mono ?_; rintro e w2 ⟨rfl, hX⟩; replace hB := Below.go hB hc1 hX; replace m0 := hbx.b0 hB; replace m1 := hbx.b1 hB)
                    | (go_at_call 22; (with_reducible refine (H1.out _ (HRR.out _ hB) (HTT.out _ hB)).mono ?_); rintro e w4 ⟨rfl, hX⟩; replace hB := Below.go hB hc1 hX; replace m0 := hbx.b0 hB; replace m1 := hbx.b1 hB)
                    | (go_at_call 25; (with_reducible refine (H2.out _ (HRR.out _ hB) (HTT.out _ hB)).mono ?_); rintro e w4 ⟨rfl, hX⟩; replace hB := Below.go hB hc1 hX; replace m0 := hbx.b0 hB; replace m1 := hbx.b1 hB)
                    | (go_at_call 24; (with_reducible refine (HV.out _ (HRR.out _ hB) (HTT.out _ hB)).mono ?_); rintro e w4 ⟨rfl, hX⟩; replace hB := Below.go hB hc1 hX; replace m0 := hbx.b0 hB; replace m1 := hbx.b1 hB)
                    | (go_at_call 21; (with_reducible refine (HK.out _).mono ?_); rintro e w5 ⟨rfl, rfl⟩)
                    | (go_at_call 24; (with_reducible refine (HW.out _ (HRR.out _ hB) (HTT.out _ hB)).mono ?_); rintro e w8 ⟨rfl, hX⟩; replace hB := Below.go hB hc1 hX; replace m0 := hbx.b0 hB; replace m1 := hbx.b1 hB)
                    | (go_at_call 14; refine (HAW.out _ (HTT.out _ hB)).mono ?_; rintro e w3 ⟨rfl, hX⟩; replace hB := Below.go hB hc1 hX))
                  go_ret
                  exact ⟨rfl, hBB ▸ hB0.trans (hB.mono (by omega))⟩
            · rw [hk] at HK
              have hne : (vrf l rows s.data.toList != 0) = true := by rw [bne_iff_ne]; exact hv
              clear HL hk hv hg h0 hA hsl hfl
              go_enter Tryd.func6, Tryd.ntmps6
              go_wp2_with fail
              generalize w.alloc (Obj.cells #[.int .i64 (l : Int), .slice A rows.length cc] 24) = W1 at hB0 HR HT HRR HTT hbx k0 k1 hsz hc1 hB m0 m1 ⊢
              go_wp2_with (first
                | (go_at_call 11; refine (HG.out _).mono ?_; rintro e w2 ⟨rfl, hX⟩; replace hB := Below.go hB hc1 hX; replace m0 := hbx.b0 hB; replace m1 := hbx.b1 hB)
                | (go_at_call 22; (with_reducible refine (H1.out _ (HRR.out _ hB) (HTT.out _ hB)).mono ?_); rintro e w4 ⟨rfl, hX⟩; replace hB := Below.go hB hc1 hX; replace m0 := hbx.b0 hB; replace m1 := hbx.b1 hB)
                | (go_at_call 25; (with_reducible refine (H2.out _ (HRR.out _ hB) (HTT.out _ hB)).mono ?_); rintro e w4 ⟨rfl, hX⟩; replace hB := Below.go hB hc1 hX; replace m0 := hbx.b0 hB; replace m1 := hbx.b1 hB)
                | (go_at_call 24; (with_reducible refine (HV.out _ (HRR.out _ hB) (HTT.out _ hB)).mono ?_); rintro e w4 ⟨rfl, hX⟩; replace hB := Below.go hB hc1 hX; replace m0 := hbx.b0 hB; replace m1 := hbx.b1 hB)
                | (go_at_call 21; (with_reducible refine (HK.out _).mono ?_); rintro e w5 ⟨rfl, rfl⟩)
                | (go_at_call 24; (with_reducible refine (HW.out _ (HRR.out _ hB) (HTT.out _ hB)).mono ?_); rintro e w8 ⟨rfl, hX⟩; replace hB := Below.go hB hc1 hX; replace m0 := hbx.b0 hB; replace m1 := hbx.b1 hB)
                | (go_at_call 14; refine (HAW.out _ (HTT.out _ hB)).mono ?_; rintro e w3 ⟨rfl, hX⟩; replace hB := Below.go hB hc1 hX))
              go_ret
              exact ⟨rfl, hBB ▸ hB0.trans (hB.mono (by omega))⟩
          · have hne : (chk l s.data.toList != 0) = true := by rw [bne_iff_ne]; exact hk
            clear HL hk hg h0 hA hsl hfl
            go_enter Tryd.func6, Tryd.ntmps6
            go_wp2_with fail
            generalize w.alloc (Obj.cells #[.int .i64 (l : Int), .slice A rows.length cc] 24) = W1 at hB0 HR HT HRR HTT hbx k0 k1 hsz hc1 hB m0 m1 ⊢
            go_wp2_with (first
              | (go_at_call 11; refine (HG.out _).mono ?_; rintro e w2 ⟨rfl, hX⟩; replace hB := Below.go hB hc1 hX; replace m0 := hbx.b0 hB; replace m1 := hbx.b1 hB)
              | (go_at_call 22; (with_reducible refine (H1.out _ (HRR.out _ hB) (HTT.out _ hB)).mono ?_); rintro e w4 ⟨rfl, hX⟩; replace hB := Below.go hB hc1 hX; replace m0 := hbx.b0 hB; replace m1 := hbx.b1 hB)
              | (go_at_call 25; (with_reducible refine (H2.out _ (HRR.out _ hB) (HTT.out _ hB)).mono ?_); rintro e w4 ⟨rfl, hX⟩; replace hB := Below.go hB hc1 hX; replace m0 := hbx.b0 hB; replace m1 := hbx.b1 hB)
              | (go_at_call 24; (with_reducible refine (HV.out _ (HRR.out _ hB) (HTT.out _ hB)).mono ?_); rintro e w4 ⟨rfl, hX⟩; replace hB := Below.go hB hc1 hX; replace m0 := hbx.b0 hB; replace m1 := hbx.b1 hB)
              | (go_at_call 21; (with_reducible refine (HK.out _).mono ?_); rintro e w5 ⟨rfl, rfl⟩)
              | (go_at_call 14; refine (HAW.out _ (HTT.out _ hB)).mono ?_; rintro e w3 ⟨rfl, hX⟩; replace hB := Below.go hB hc1 hX))
            go_ret
            exact ⟨rfl, hBB ▸ hB0.trans (hB.mono (by omega))⟩
        | false =>
          have hfe := first_no (rows := rows) (L := l) (S := fullS rows) (by rw [hf])
          rw [hf] at hfe
          obtain rfl : f = ⟨#[]⟩ := hfe
          by_cases hk : chk l s.data.toList = 0
          · have hv : vrf l rows s.data.toList ≠ 0 := fun hv => by have := (HL.out hk hv).1; cases this
            rw [hk] at HK
            have hne : (vrf l rows s.data.toList != 0) = true := by rw [bne_iff_ne]; exact hv
            clear HL hk hv hg h0 hA hsl hf
            go_enter Tryd.func6, Tryd.ntmps6
            go_wp2_with fail
            generalize w.alloc (Obj.cells #[.int .i64 (l : Int), .slice A rows.length cc] 24) = W1 at hB0 HR HT HRR HTT hbx k0 k1 hsz hc1 hB m0 m1 ⊢
            go_wp2_with (first
              | (go_at_call 11; refine (HG.out _).mono ?_; rintro e w2 ⟨rfl, hX⟩; replace hB := Below.go hB hc1 hX; replace m0 := hbx.b0 hB; replace m1 := hbx.b1 hB)
              | (go_at_call 22; (with_reducible refine (H1.out _ (HRR.out _ hB) (HTT.out _ hB)).mono ?_); rintro e w4 ⟨rfl, hX⟩; replace hB := Below.go hB hc1 hX; replace m0 := hbx.b0 hB; replace m1 := hbx.b1 hB)
              | (go_at_call 25; (with_reducible refine (H2.out _ (HRR.out _ hB) (HTT.out _ hB)).mono ?_); rintro e w4 ⟨rfl, hX⟩; replace hB := Below.go hB hc1 hX; replace m0 := hbx.b0 hB; replace m1 := hbx.b1 hB)
              | (go_at_call 21; (with_reducible refine (HK.out _).mono ?_); rintro e w5 ⟨rfl, rfl⟩)
              | (go_at_call 24; (with_reducible refine (HW.out _ (HRR.out _ hB) (HTT.out _ hB)).mono ?_); rintro e w8 ⟨rfl, hX⟩; replace hB := Below.go hB hc1 hX; replace m0 := hbx.b0 hB; replace m1 := hbx.b1 hB)
              | (go_at_call 14; refine (HAW.out _ (HTT.out _ hB)).mono ?_; rintro e w3 ⟨rfl, hX⟩; replace hB := Below.go hB hc1 hX))
            go_ret
            exact ⟨rfl, hBB ▸ hB0.trans (hB.mono (by omega))⟩
          · have hne : (chk l s.data.toList != 0) = true := by rw [bne_iff_ne]; exact hk
            clear HL hk hg h0 hA hsl hf
            go_enter Tryd.func6, Tryd.ntmps6
            go_wp2_with fail
            generalize w.alloc (Obj.cells #[.int .i64 (l : Int), .slice A rows.length cc] 24) = W1 at hB0 HR HT HRR HTT hbx k0 k1 hsz hc1 hB m0 m1 ⊢
            go_wp2_with (first
              | (go_at_call 11; refine (HG.out _).mono ?_; rintro e w2 ⟨rfl, hX⟩; replace hB := Below.go hB hc1 hX; replace m0 := hbx.b0 hB; replace m1 := hbx.b1 hB)
              | (go_at_call 22; (with_reducible refine (H1.out _ (HRR.out _ hB) (HTT.out _ hB)).mono ?_); rintro e w4 ⟨rfl, hX⟩; replace hB := Below.go hB hc1 hX; replace m0 := hbx.b0 hB; replace m1 := hbx.b1 hB)
              | (go_at_call 25; (with_reducible refine (H2.out _ (HRR.out _ hB) (HTT.out _ hB)).mono ?_); rintro e w4 ⟨rfl, hX⟩; replace hB := Below.go hB hc1 hX; replace m0 := hbx.b0 hB; replace m1 := hbx.b1 hB)
              | (go_at_call 21; (with_reducible refine (HK.out _).mono ?_); rintro e w5 ⟨rfl, rfl⟩)
              | (go_at_call 14; refine (HAW.out _ (HTT.out _ hB)).mono ?_; rintro e w3 ⟨rfl, hX⟩; replace hB := Below.go hB hc1 hX))
            go_ret
            exact ⟨rfl, hBB ▸ hB0.trans (hB.mono (by omega))⟩
      · rw [shrV_bad h0] at H1
        rw [prsV_bad h0] at H2
        clear hg h0
        go_enter Tryd.func6, Tryd.ntmps6
        go_wp2_with fail
        generalize w.alloc (Obj.cells #[.int .i64 L, .slice A rows.length cc] 24) = W1 at hB0 HR HT HRR HTT hbx k0 k1 hsz hc1 hB m0 m1 ⊢
        go_wp2_with (first
          | (go_at_call 11; refine (HG.out _).mono ?_; rintro e w2 ⟨rfl, hX⟩; replace hB := Below.go hB hc1 hX; replace m0 := hbx.b0 hB; replace m1 := hbx.b1 hB)
          | (go_at_call 22; (with_reducible refine (H1.out _ (HRR.out _ hB) (HTT.out _ hB)).mono ?_); rintro e w4 ⟨rfl, hX⟩; replace hB := Below.go hB hc1 hX; replace m0 := hbx.b0 hB; replace m1 := hbx.b1 hB)
          | (go_at_call 25; (with_reducible refine (H2.out _ (HRR.out _ hB) (HTT.out _ hB)).mono ?_); rintro e w4 ⟨rfl, hX⟩; replace hB := Below.go hB hc1 hX; replace m0 := hbx.b0 hB; replace m1 := hbx.b1 hB)
          | (go_at_call 14; refine (HAW.out _ (HTT.out _ hB)).mono ?_; rintro e w3 ⟨rfl, hX⟩; replace hB := Below.go hB hc1 hX))
        go_ret
        exact ⟨rfl, hBB ▸ hB0.trans (hB.mono (by omega))⟩
    · have hs2 : 8 < s.size := by omega
      clear hg hs
      go_enter Tryd.func6, Tryd.ntmps6
      go_wp2_with fail
      generalize w.alloc (Obj.cells #[.int .i64 L, .slice A rows.length cc] 24) = W1 at hB0 HR HT HRR HTT hbx k0 k1 hsz hc1 hB m0 m1 ⊢
      go_wp2_with (first
        | (go_at_call 11; refine (HG.out _).mono ?_; rintro e w2 ⟨rfl, hX⟩; replace hB := Below.go hB hc1 hX; replace m0 := hbx.b0 hB; replace m1 := hbx.b1 hB)
        | (go_at_call 14; refine (HAW.out _ (HTT.out _ hB)).mono ?_; rintro e w3 ⟨rfl, hX⟩; replace hB := Below.go hB hc1 hX))
      go_ret
      exact ⟨rfl, hBB ▸ hB0.trans (hB.mono (by omega))⟩
end Go.Proofs.YtmokccidpnpimaaDoor
