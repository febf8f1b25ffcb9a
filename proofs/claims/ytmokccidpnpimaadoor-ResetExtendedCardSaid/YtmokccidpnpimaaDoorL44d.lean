/- groovelaw44.ResetExtended: its walk. -/
import Derived.Test.YtmokccidpnpimaaDoorLw44
import Derived.Test.YtmokccidpnpimaaDoorExtP
set_option linter.unusedVariables false
namespace Go.Proofs.YtmokccidpnpimaaDoor
open Go.RowKit Go.Maps
set_option maxRecDepth 100000 in
set_option maxHeartbeats 8000000 in
theorem lExtended44_any (L : Int) (rows : List (List Int)) (A : Option Addr) (cc : Nat) (set : List Int) (D : Option Addr) (dc : Nat) (u v : ByteArray) (w : World) (hR : RowD w A rows) (hD : RowI w D set) (hT : TabZ w) (hb : rows.length ≤ 9223372036854775807) (hdb : set.length ≤ 9223372036854775807) (hub : u.size ≤ 9223372036854775807) (hvb : v.size ≤ 9223372036854775807) :
    Calls Tryd.prog 9 #[.agg #[.int .i64 L, .slice A rows.length cc], .slice D set.length dc, .string u, .string v] w fun e w' => e = .returned (.bool true) ∧ Below w.heap.size w w' := by
  have hB0 : Below w.heap.size w (w.alloc (Obj.cells #[.int .i64 L, .slice A rows.length cc] 24)) := (Below.refl _ w).alloc (Nat.le_refl _) _
  have HR := hide (hR.below hB0)
  have HT := hide (hT.below hB0)
  have HD := hide (hD.below hB0)
  obtain ⟨B, hBB⟩ : ∃ B, w.heap.size = B := ⟨_, rfl⟩
  have hbx : BoxA (w.alloc (Obj.cells #[.int .i64 L, .slice A rows.length cc] 24)) B L A rows.length cc := by rw [← hBB]; exact heap_alloc_new w _
  have hsz : (w.alloc (Obj.cells #[.int .i64 L, .slice A rows.length cc] 24)).heap.size = B + 1 := by rw [← hBB]; simp
  have HG := hide (fun W => great44_any rows.length L A cc W)
  have HAW := hide (fun W h => awake44_any W h)
  have HTT := hide (fun W (h : Below (B + 1) (w.alloc (Obj.cells #[.int .i64 L, .slice A rows.length cc] 24)) W) => HT.out.below (h.mono (Nat.le_of_eq hsz)))
  have HRR := hide (fun W (h : Below (B + 1) (w.alloc (Obj.cells #[.int .i64 L, .slice A rows.length cc] 24)) W) => HR.out.below (h.mono (Nat.le_of_eq hsz)))
  have HDD := hide (fun W (h : Below (B + 1) (w.alloc (Obj.cells #[.int .i64 L, .slice A rows.length cc] 24)) W) => HD.out.below (h.mono (Nat.le_of_eq hsz)))
  have HCK := hide (fun W (h : RowD W A rows) => zrCheck_any L rows A cc W h hb)
  have HKU := hide (fun W => rcheck_any L u W)
  have HKV := hide (fun W => rcheck_any L v W)
  have k0 := hbx.c0
  have k1 := hbx.c1
  have hc1 : B + 1 ≤ (w.alloc (Obj.cells #[.int .i64 L, .slice A rows.length cc] 24)).heap.size := by omega
  have hB := Below.refl (B + 1) (w.alloc (Obj.cells #[.int .i64 L, .slice A rows.length cc] 24))
  have m0 := hbx.b0 hB
  have m1 := hbx.b1 hB
  clear hR hT hD
  cases hg : grt L rows.length with
  | true =>
    rw [hg] at HG
    clear hg
    go_enter Tryd.func9, Tryd.ntmps9
    go_wp2_with fail
    generalize w.alloc (Obj.cells #[.int .i64 L, .slice A rows.length cc] 24) = W1 at hB0 HR HT HD HRR HTT HDD hbx k0 k1 hsz hc1 hB m0 m1 ⊢
    go_wp2_with (first
      | (go_at_call 11; refine (HG.out _).mono ?_; rintro e w2 ⟨rfl, hX⟩; replace hB := Below.go hB hc1 hX; replace m0 := hbx.b0 hB; replace m1 := hbx.b1 hB)
      | (go_at_call 14; refine (HAW.out _ (HTT.out _ hB)).mono ?_; rintro e w3 ⟨rfl, hX⟩; replace hB := Below.go hB hc1 hX))
    go_ret
    exact ⟨rfl, hBB ▸ hB0.trans (hB.mono (by omega))⟩
  | false =>
    rw [hg] at HG
    by_cases hu : u.size ≤ 12
    · by_cases hv : v.size ≤ 12
      · by_cases h0 : chkA L rows = 0
        · rw [h0] at HCK
          by_cases h1 : chk L u.data.toList = 0
          · rw [h1] at HKU
            by_cases h2 : chk L v.data.toList = 0
            · rw [h2] at HKV
              obtain ⟨l, rfl, hA⟩ := aut_of hg h0
              have HA := hide hA
              have hou := okw_of h1
              have hov := okw_of h2
              have hul : u.data.toList.length = u.size := by simp
              have hvl : v.data.toList.length = v.size := by simp
              have huv : (u ++ v).data.toList = u.data.toList ++ v.data.toList := by simp only [ByteArray.data_append, Array.toList_append]
              have hsuv : (u ++ v).size = u.size + v.size := by rw [ByteArray.size_append]
              obtain ⟨p1, p2, p3, p4⟩ := apy_parts hA h0 (set := set) hou hov (by omega) (by omega)
              obtain ⟨E, hE⟩ : ∃ E, scn rows.length set = E := ⟨_, rfl⟩
              rw [hE] at p1 p2 p3 p4
              obtain ⟨X, hX⟩ : ∃ X, apyO l rows set (u.data.toList ++ v.data.toList) = X := ⟨_, rfl⟩
              obtain ⟨Y, hY⟩ : ∃ Y, apyO l rows set u.data.toList = Y := ⟨_, rfl⟩
              rw [hX] at p3 p4
              rw [hY] at p4
              have HX := hide (fun W (h : RowD W A rows) (hT : TabZ W) (hD : RowI W D set) => zApply_any l rows set (u ++ v) A cc D dc W hg h hT hD hb (by omega) hdb)
              have HY := hide (fun W (h : RowD W A rows) (hT : TabZ W) (hD : RowI W D set) => zApply_any l rows set u A cc D dc W hg h hT hD hb hub hdb)
              rw [huv, p1, hX] at HX
              rw [p2, hY] at HY
              have HZ := hide (fun W D2 d2 (h : RowD W A rows) (hT : TabZ W) (hD : RowI W D2 Y) (hy : Y.length ≤ 9223372036854775807) => zApply_any l rows Y v A cc D2 d2 W hg h hT hD hb hvb hy)
              have HS := hide (fun A A' c c' W hO (h : RowI W A X) (h' : RowI W A' X) => same12_any X X A A' c c' W h h' hO hO)
              simp only [decide_true] at HS
              have H1 := hide (fun W (h : RowD W A rows) (hT : TabZ W) => zShortest_any l rows A cc W hg h hT hb)
              rw [shrV_ok h0] at H1
              obtain ⟨f, is, hf⟩ : ∃ f is, first rows l (fullS rows) = (f, is) := ⟨_, _, rfl⟩
              rw [hf] at H1
              have HF := hide (fun his : is = true => by
                have h1 := first_from hA.L16 (by rw [hf]; exact his : (first rows l (fullS rows)).2 = true)
                rw [hf] at h1
                have h2 := first_size (rows := rows) (L := l) (S := fullS rows) hA (full_lt2 rows)
                rw [hf] at h2
                have hfl : f.data.toList.length = f.size := by simp
                have h2' : f.size ≤ 64 := h2
                have e : (u ++ f ++ v).data.toList = u.data.toList ++ f.data.toList ++ v.data.toList := by simp only [ByteArray.data_append, Array.toList_append]
                have h3 : vrf l rows (u ++ f ++ v).data.toList = 0 := by
                  rw [e]
                  exact vrf_ok hA h0 (by simp only [List.length_append]; omega) ((hou.append h1.1).append hov) (reset_mid hA hou h1.1 hov h1.2)
                exact (And.intro h2' fun W (h : RowD W A rows) (hT : TabZ W) => by
                  have := zVerify_any l rows (u ++ f ++ v) A cc W hg h hT hb (by simp only [ByteArray.size_append]; omega)
                  rw [h3] at this
                  exact this : f.size ≤ 64 ∧ ∀ W, RowD W A rows → TabZ W → Calls Tryd.prog 24 #[.agg #[.int .i64 l, .slice A rows.length cc], .string (u ++ f ++ v)] W fun e w' => e = .returned (.int .i64 0) ∧ Below W.heap.size W w'))
              clear hg h1 h2 hou hov hul hvl huv hsuv hX hY hf p1 p2 hE HA hA h0
              have HDB := hide hdb
              by_cases hE0 : E = 0
              · have P4 := hide (p4 hE0)
                subst hE0
                have hZE := P4.out.1
                have hZX := P4.out.2.1
                have hxy := P4.out.2.2.1
                have hys := P4.out.2.2.2.1
                have hy6 := P4.out.2.2.2.2
                rw [hZE, hZX] at HZ
                have d1 : decide (X.length ≤ Y.length) = true := decide_eq_true hxy
                have d2 : decide (Y.length ≤ set.length) = true := decide_eq_true hys
                clear p3 p4 hZE hZX P4
                cases is with
                | true =>
                  obtain ⟨hf64, hFV⟩ := HF.out rfl
                  have HFV := hide hFV
                  clear hFV HF
                  go_enter Tryd.func9, Tryd.ntmps9
                  go_wp2_with fail
                  generalize w.alloc (Obj.cells #[.int .i64 (l : Int), .slice A rows.length cc] 24) = W1 at hB0 HR HT HD HRR HTT HDD hbx k0 k1 hsz hc1 hB m0 m1 ⊢
                  go_wp2_with (first
                    | (go_at_call 11; refine (HG.out _).mono ?_; rintro e w2 ⟨rfl, hX⟩; replace hB := Below.go hB hc1 hX; replace m0 := hbx.b0 hB; replace m1 := hbx.b1 hB)
                    | (go_at_call 20; refine (HCK.out _ (HRR.out _ hB)).mono ?_; rintro e w4 ⟨rfl, hX⟩; replace hB := Below.go hB hc1 hX; replace m0 := hbx.b0 hB; replace m1 := hbx.b1 hB)
                    | (go_at_call 21; (with_reducible refine (HKU.out _).mono ?_); rintro e w5 ⟨rfl, rfl⟩)
                    | (go_at_call 21; (with_reducible refine (HKV.out _).mono ?_); rintro e w6 ⟨rfl, rfl⟩)
                    | (go_at_call 22; refine (H1.out _ (HRR.out _ hB) (HTT.out _ hB)).mono ?_; rintro e w7 ⟨rfl, hX⟩; replace hB := Below.go hB hc1 hX; replace m0 := hbx.b0 hB; replace m1 := hbx.b1 hB)
                    | (go_at_call 24; refine (HFV.out _ (HRR.out _ hB) (HTT.out _ hB)).mono ?_; rintro e w8 ⟨rfl, hX⟩; replace hB := Below.go hB hc1 hX; replace m0 := hbx.b0 hB; replace m1 := hbx.b1 hB)
                    | (go_at_call 27; (with_reducible refine (HX.out _ (HRR.out _ hB) (HTT.out _ hB) (HDD.out _ hB)).mono ?_); rintro e w9 ⟨v9, rfl, hI9, hX9⟩; replace hB := Below.go hB hc1 hX9; replace m0 := hbx.b0 hB; replace m1 := hbx.b1 hB)
                    | (go_at_call 27; (with_reducible refine (HY.out _ (HRR.out _ hB) (HTT.out _ hB) (HDD.out _ hB)).mono ?_); rintro e wa ⟨va, rfl, hIa, hXa⟩; replace hB := Below.go hB hc1 hXa; replace m0 := hbx.b0 hB; replace m1 := hbx.b1 hB; obtain ⟨A9, c9, e9, hR9⟩ := (hI9.below hXa (Nat.le_refl _)).row; obtain ⟨Aa, ca, ea, hRa⟩ := hIa.row; subst e9; subst ea; have HRa := hide hRa; clear hRa; have HR9 := hide hR9; clear hR9)
                    | (go_at_call 27; (with_reducible refine (HZ.out _ Aa ca (HRR.out _ hB) (HTT.out _ hB) HRa.out (by omega)).mono ?_); rintro e wb ⟨vb, rfl, hIb, hXb⟩; replace hB := Below.go hB hc1 hXb; replace m0 := hbx.b0 hB; replace m1 := hbx.b1 hB; obtain ⟨Ab, cb, eb, hRb⟩ := hIb.row; subst eb; have HRb := hide hRb; clear hRb; have HR9b := hide (HR9.out.below hXb))
                    | (go_at_call 30; (with_reducible refine (HS.out A9 Ab c9 cb _ (by omega) HR9b.out HRb.out).mono ?_); rintro e wc ⟨rfl, q7, rfl⟩; replace hB := belowN hB q7)
                    | (go_at_call 14; refine (HAW.out _ (HTT.out _ hB)).mono ?_; rintro e w3 ⟨rfl, hX⟩; replace hB := Below.go hB hc1 hX))
                  go_ret
                  exact ⟨rfl, hBB ▸ hB0.trans (hB.mono (by omega))⟩
                | false =>
                  clear HF
                  go_enter Tryd.func9, Tryd.ntmps9
                  go_wp2_with fail
                  generalize w.alloc (Obj.cells #[.int .i64 (l : Int), .slice A rows.length cc] 24) = W1 at hB0 HR HT HD HRR HTT HDD hbx k0 k1 hsz hc1 hB m0 m1 ⊢
                  go_wp2_with (first
                    | (go_at_call 11; refine (HG.out _).mono ?_; rintro e w2 ⟨rfl, hX⟩; replace hB := Below.go hB hc1 hX; replace m0 := hbx.b0 hB; replace m1 := hbx.b1 hB)
                    | (go_at_call 20; refine (HCK.out _ (HRR.out _ hB)).mono ?_; rintro e w4 ⟨rfl, hX⟩; replace hB := Below.go hB hc1 hX; replace m0 := hbx.b0 hB; replace m1 := hbx.b1 hB)
                    | (go_at_call 21; (with_reducible refine (HKU.out _).mono ?_); rintro e w5 ⟨rfl, rfl⟩)
                    | (go_at_call 21; (with_reducible refine (HKV.out _).mono ?_); rintro e w6 ⟨rfl, rfl⟩)
                    | (go_at_call 22; refine (H1.out _ (HRR.out _ hB) (HTT.out _ hB)).mono ?_; rintro e w7 ⟨rfl, hX⟩; replace hB := Below.go hB hc1 hX; replace m0 := hbx.b0 hB; replace m1 := hbx.b1 hB)
                    | (go_at_call 27; (with_reducible refine (HX.out _ (HRR.out _ hB) (HTT.out _ hB) (HDD.out _ hB)).mono ?_); rintro e w9 ⟨v9, rfl, hI9, hX9⟩; replace hB := Below.go hB hc1 hX9; replace m0 := hbx.b0 hB; replace m1 := hbx.b1 hB)
                    | (go_at_call 27; (with_reducible refine (HY.out _ (HRR.out _ hB) (HTT.out _ hB) (HDD.out _ hB)).mono ?_); rintro e wa ⟨va, rfl, hIa, hXa⟩; replace hB := Below.go hB hc1 hXa; replace m0 := hbx.b0 hB; replace m1 := hbx.b1 hB; obtain ⟨A9, c9, e9, hR9⟩ := (hI9.below hXa (Nat.le_refl _)).row; obtain ⟨Aa, ca, ea, hRa⟩ := hIa.row; subst e9; subst ea; have HRa := hide hRa; clear hRa; have HR9 := hide hR9; clear hR9)
                    | (go_at_call 27; (with_reducible refine (HZ.out _ Aa ca (HRR.out _ hB) (HTT.out _ hB) HRa.out (by omega)).mono ?_); rintro e wb ⟨vb, rfl, hIb, hXb⟩; replace hB := Below.go hB hc1 hXb; replace m0 := hbx.b0 hB; replace m1 := hbx.b1 hB; obtain ⟨Ab, cb, eb, hRb⟩ := hIb.row; subst eb; have HRb := hide hRb; clear hRb; have HR9b := hide (HR9.out.below hXb))
                    | (go_at_call 30; (with_reducible refine (HS.out A9 Ab c9 cb _ (by omega) HR9b.out HRb.out).mono ?_); rintro e wc ⟨rfl, q7, rfl⟩; replace hB := belowN hB q7)
                    | (go_at_call 14; refine (HAW.out _ (HTT.out _ hB)).mono ?_; rintro e w3 ⟨rfl, hX⟩; replace hB := Below.go hB hc1 hX))
                  go_ret
                  exact ⟨rfl, hBB ▸ hB0.trans (hB.mono (by omega))⟩
              · have hX0 := p3 hE0
                have hne : (E != 0) = true := by rw [bne_iff_ne]; exact hE0
                subst hX0
                clear p3 p4 hE0
                cases is with
                | true =>
                  obtain ⟨hf64, hFV⟩ := HF.out rfl
                  have HFV := hide hFV
                  clear hFV HF
                  go_enter Tryd.func9, Tryd.ntmps9
                  go_wp2_with fail
                  generalize w.alloc (Obj.cells #[.int .i64 (l : Int), .slice A rows.length cc] 24) = W1 at hB0 HR HT HD HRR HTT HDD hbx k0 k1 hsz hc1 hB m0 m1 ⊢
                  go_wp2_with (first
                    | (go_at_call 11; refine (HG.out _).mono ?_; rintro e w2 ⟨rfl, hX⟩; replace hB := Below.go hB hc1 hX; replace m0 := hbx.b0 hB; replace m1 := hbx.b1 hB)
                    | (go_at_call 20; refine (HCK.out _ (HRR.out _ hB)).mono ?_; rintro e w4 ⟨rfl, hX⟩; replace hB := Below.go hB hc1 hX; replace m0 := hbx.b0 hB; replace m1 := hbx.b1 hB)
                    | (go_at_call 21; (with_reducible refine (HKU.out _).mono ?_); rintro e w5 ⟨rfl, rfl⟩)
                    | (go_at_call 21; (with_reducible refine (HKV.out _).mono ?_); rintro e w6 ⟨rfl, rfl⟩)
                    | (go_at_call 22; refine (H1.out _ (HRR.out _ hB) (HTT.out _ hB)).mono ?_; rintro e w7 ⟨rfl, hX⟩; replace hB := Below.go hB hc1 hX; replace m0 := hbx.b0 hB; replace m1 := hbx.b1 hB)
                    | (go_at_call 24; refine (HFV.out _ (HRR.out _ hB) (HTT.out _ hB)).mono ?_; rintro e w8 ⟨rfl, hX⟩; replace hB := Below.go hB hc1 hX; replace m0 := hbx.b0 hB; replace m1 := hbx.b1 hB)
                    | (go_at_call 27; (with_reducible refine (HX.out _ (HRR.out _ hB) (HTT.out _ hB) (HDD.out _ hB)).mono ?_); rintro e w9 ⟨v9, rfl, hI9, hX9⟩; replace hB := Below.go hB hc1 hX9; replace m0 := hbx.b0 hB; replace m1 := hbx.b1 hB)
                    | (go_at_call 27; (with_reducible refine (HY.out _ (HRR.out _ hB) (HTT.out _ hB) (HDD.out _ hB)).mono ?_); rintro e wa ⟨va, rfl, hIa, hXa⟩; replace hB := Below.go hB hc1 hXa; replace m0 := hbx.b0 hB; replace m1 := hbx.b1 hB; obtain ⟨A9, c9, e9, hR9⟩ := (hI9.below hXa (Nat.le_refl _)).row; obtain ⟨Aa, ca, ea, hRa⟩ := hIa.row; subst e9; subst ea; have HRa := hide hRa; clear hRa; have HR9 := hide hR9; clear hR9)
                    | (go_at_call 14; refine (HAW.out _ (HTT.out _ hB)).mono ?_; rintro e w3 ⟨rfl, hX⟩; replace hB := Below.go hB hc1 hX))
                  go_ret
                  exact ⟨rfl, hBB ▸ hB0.trans (hB.mono (by omega))⟩
                | false =>
                  clear HF
                  go_enter Tryd.func9, Tryd.ntmps9
                  go_wp2_with fail
                  generalize w.alloc (Obj.cells #[.int .i64 (l : Int), .slice A rows.length cc] 24) = W1 at hB0 HR HT HD HRR HTT HDD hbx k0 k1 hsz hc1 hB m0 m1 ⊢
                  go_wp2_with (first
                    | (go_at_call 11; refine (HG.out _).mono ?_; rintro e w2 ⟨rfl, hX⟩; replace hB := Below.go hB hc1 hX; replace m0 := hbx.b0 hB; replace m1 := hbx.b1 hB)
                    | (go_at_call 20; refine (HCK.out _ (HRR.out _ hB)).mono ?_; rintro e w4 ⟨rfl, hX⟩; replace hB := Below.go hB hc1 hX; replace m0 := hbx.b0 hB; replace m1 := hbx.b1 hB)
                    | (go_at_call 21; (with_reducible refine (HKU.out _).mono ?_); rintro e w5 ⟨rfl, rfl⟩)
                    | (go_at_call 21; (with_reducible refine (HKV.out _).mono ?_); rintro e w6 ⟨rfl, rfl⟩)
                    | (go_at_call 22; refine (H1.out _ (HRR.out _ hB) (HTT.out _ hB)).mono ?_; rintro e w7 ⟨rfl, hX⟩; replace hB := Below.go hB hc1 hX; replace m0 := hbx.b0 hB; replace m1 := hbx.b1 hB)
                    | (go_at_call 27; (with_reducible refine (HX.out _ (HRR.out _ hB) (HTT.out _ hB) (HDD.out _ hB)).mono ?_); rintro e w9 ⟨v9, rfl, hI9, hX9⟩; replace hB := Below.go hB hc1 hX9; replace m0 := hbx.b0 hB; replace m1 := hbx.b1 hB)
                    | (go_at_call 27; (with_reducible refine (HY.out _ (HRR.out _ hB) (HTT.out _ hB) (HDD.out _ hB)).mono ?_); rintro e wa ⟨va, rfl, hIa, hXa⟩; replace hB := Below.go hB hc1 hXa; replace m0 := hbx.b0 hB; replace m1 := hbx.b1 hB; obtain ⟨A9, c9, e9, hR9⟩ := (hI9.below hXa (Nat.le_refl _)).row; obtain ⟨Aa, ca, ea, hRa⟩ := hIa.row; subst e9; subst ea; have HRa := hide hRa; clear hRa; have HR9 := hide hR9; clear hR9)
                    | (go_at_call 14; refine (HAW.out _ (HTT.out _ hB)).mono ?_; rintro e w3 ⟨rfl, hX⟩; replace hB := Below.go hB hc1 hX))
                  go_ret
                  exact ⟨rfl, hBB ▸ hB0.trans (hB.mono (by omega))⟩
            · have hne : (chk L v.data.toList != 0) = true := by rw [bne_iff_ne]; exact h2
              clear hg h0 h1 h2
              go_enter Tryd.func9, Tryd.ntmps9
              go_wp2_with fail
              generalize w.alloc (Obj.cells #[.int .i64 L, .slice A rows.length cc] 24) = W1 at hB0 HR HT HD HRR HTT HDD hbx k0 k1 hsz hc1 hB m0 m1 ⊢
              go_wp2_with (first
                | (go_at_call 11; refine (HG.out _).mono ?_; rintro e w2 ⟨rfl, hX⟩; replace hB := Below.go hB hc1 hX; replace m0 := hbx.b0 hB; replace m1 := hbx.b1 hB)
                | (go_at_call 14; refine (HAW.out _ (HTT.out _ hB)).mono ?_; rintro e w3 ⟨rfl, hX⟩; replace hB := Below.go hB hc1 hX)
                | (go_at_call 20; refine (HCK.out _ (HRR.out _ hB)).mono ?_; rintro e w4 ⟨rfl, hX⟩; replace hB := Below.go hB hc1 hX; replace m0 := hbx.b0 hB; replace m1 := hbx.b1 hB)
                | (go_at_call 21; (with_reducible refine (HKU.out _).mono ?_); rintro e w5 ⟨rfl, rfl⟩)
                | (go_at_call 21; (with_reducible refine (HKV.out _).mono ?_); rintro e w6 ⟨rfl, rfl⟩))
              go_ret
              exact ⟨rfl, hBB ▸ hB0.trans (hB.mono (by omega))⟩
          · have hne : (chk L u.data.toList != 0) = true := by rw [bne_iff_ne]; exact h1
            clear hg h0 h1 HKV
            go_enter Tryd.func9, Tryd.ntmps9
            go_wp2_with fail
            generalize w.alloc (Obj.cells #[.int .i64 L, .slice A rows.length cc] 24) = W1 at hB0 HR HT HD HRR HTT HDD hbx k0 k1 hsz hc1 hB m0 m1 ⊢
            go_wp2_with (first
              | (go_at_call 11; refine (HG.out _).mono ?_; rintro e w2 ⟨rfl, hX⟩; replace hB := Below.go hB hc1 hX; replace m0 := hbx.b0 hB; replace m1 := hbx.b1 hB)
              | (go_at_call 14; refine (HAW.out _ (HTT.out _ hB)).mono ?_; rintro e w3 ⟨rfl, hX⟩; replace hB := Below.go hB hc1 hX)
              | (go_at_call 20; refine (HCK.out _ (HRR.out _ hB)).mono ?_; rintro e w4 ⟨rfl, hX⟩; replace hB := Below.go hB hc1 hX; replace m0 := hbx.b0 hB; replace m1 := hbx.b1 hB)
              | (go_at_call 21; (with_reducible refine (HKU.out _).mono ?_); rintro e w5 ⟨rfl, rfl⟩))
            go_ret
            exact ⟨rfl, hBB ▸ hB0.trans (hB.mono (by omega))⟩
        · have hne : (chkA L rows != 0) = true := by rw [bne_iff_ne]; exact h0
          clear hg h0 HKV HKU
          go_enter Tryd.func9, Tryd.ntmps9
          go_wp2_with fail
          generalize w.alloc (Obj.cells #[.int .i64 L, .slice A rows.length cc] 24) = W1 at hB0 HR HT HD HRR HTT HDD hbx k0 k1 hsz hc1 hB m0 m1 ⊢
          go_wp2_with (first
            | (go_at_call 11; refine (HG.out _).mono ?_; rintro e w2 ⟨rfl, hX⟩; replace hB := Below.go hB hc1 hX; replace m0 := hbx.b0 hB; replace m1 := hbx.b1 hB)
            | (go_at_call 14; refine (HAW.out _ (HTT.out _ hB)).mono ?_; rintro e w3 ⟨rfl, hX⟩; replace hB := Below.go hB hc1 hX)
            | (go_at_call 20; refine (HCK.out _ (HRR.out _ hB)).mono ?_; rintro e w4 ⟨rfl, hX⟩; replace hB := Below.go hB hc1 hX; replace m0 := hbx.b0 hB; replace m1 := hbx.b1 hB))
          go_ret
          exact ⟨rfl, hBB ▸ hB0.trans (hB.mono (by omega))⟩
      · have hv2 : 12 < v.size := by omega
        clear hg
        go_enter Tryd.func9, Tryd.ntmps9
        go_wp2_with fail
        generalize w.alloc (Obj.cells #[.int .i64 L, .slice A rows.length cc] 24) = W1 at hB0 HR HT HD HRR HTT HDD hbx k0 k1 hsz hc1 hB m0 m1 ⊢
        go_wp2_with (first
          | (go_at_call 11; refine (HG.out _).mono ?_; rintro e w2 ⟨rfl, hX⟩; replace hB := Below.go hB hc1 hX; replace m0 := hbx.b0 hB; replace m1 := hbx.b1 hB)
          | (go_at_call 14; refine (HAW.out _ (HTT.out _ hB)).mono ?_; rintro e w3 ⟨rfl, hX⟩; replace hB := Below.go hB hc1 hX))
        go_ret
        exact ⟨rfl, hBB ▸ hB0.trans (hB.mono (by omega))⟩
    · have hu2 : 12 < u.size := by omega
      clear hg
      go_enter Tryd.func9, Tryd.ntmps9
      go_wp2_with fail
      generalize w.alloc (Obj.cells #[.int .i64 L, .slice A rows.length cc] 24) = W1 at hB0 HR HT HD HRR HTT HDD hbx k0 k1 hsz hc1 hB m0 m1 ⊢
      go_wp2_with (first
        | (go_at_call 11; refine (HG.out _).mono ?_; rintro e w2 ⟨rfl, hX⟩; replace hB := Below.go hB hc1 hX; replace m0 := hbx.b0 hB; replace m1 := hbx.b1 hB)
        | (go_at_call 14; refine (HAW.out _ (HTT.out _ hB)).mono ?_; rintro e w3 ⟨rfl, hX⟩; replace hB := Below.go hB hc1 hX))
      go_ret
      exact ⟨rfl, hBB ▸ hB0.trans (hB.mono (by omega))⟩
end Go.Proofs.YtmokccidpnpimaaDoor
