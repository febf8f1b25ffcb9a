/- groovelaw44.ResetProves: its walk. -/
import Derived.Test.YtmokccidpnpimaaDoorLw44
import Derived.Test.YtmokccidpnpimaaDoorPrvL
import Derived.Test.YtmokccidpnpimaaDoorCfII
set_option linter.unusedVariables false
namespace Go.Proofs.YtmokccidpnpimaaDoor
open Go.RowKit Go.Maps
set_option maxRecDepth 100000 in
set_option maxHeartbeats 8000000 in
theorem lProves44_any (L : Int) (rows : List (List Int)) (A : Option Addr) (cc : Nat) (ds : List (List Int)) (D : Option Addr) (dc : Nat) (s t : ByteArray) (w : World) (hR : RowD w A rows) (hD : RowD w D ds) (hT : TabZ w) (hb : rows.length ≤ 9223372036854775807) (hdb : ds.length ≤ 9223372036854775807) (hsb : s.size ≤ 9223372036854775807) (htb : t.size ≤ 9223372036854775807) :
    Calls Tryd.prog 5 #[.agg #[.int .i64 L, .slice A rows.length cc], .slice D ds.length dc, .string s, .string t] w fun e w' => e = .returned (.bool true) ∧ Below w.heap.size w w' := by
  have hB0 : Below w.heap.size w (w.alloc (Obj.cells #[.int .i64 L, .slice A rows.length cc] 24)) := (Below.refl _ w).alloc (Nat.le_refl _) _
  have HR := hide (hR.below hB0)
  have HT := hide (hT.below hB0)
  obtain ⟨B, hBB⟩ : ∃ B, w.heap.size = B := ⟨_, rfl⟩
  have hbx : BoxA (w.alloc (Obj.cells #[.int .i64 L, .slice A rows.length cc] 24)) B L A rows.length cc := by rw [← hBB]; exact heap_alloc_new w _
  have hsz : (w.alloc (Obj.cells #[.int .i64 L, .slice A rows.length cc] 24)).heap.size = B + 1 := by rw [← hBB]; simp
  have HG := hide (fun W => great44_any rows.length L A cc W)
  have HAW := hide (fun W h => awake44_any W h)
  have HTT := hide (fun W (h : Below (B + 1) (w.alloc (Obj.cells #[.int .i64 L, .slice A rows.length cc] 24)) W) => HT.out.below (h.mono (Nat.le_of_eq hsz)))
  have HRR := hide (fun W (h : Below (B + 1) (w.alloc (Obj.cells #[.int .i64 L, .slice A rows.length cc] 24)) W) => HR.out.below (h.mono (Nat.le_of_eq hsz)))
  have HD := hide (hD.below hB0)
  have HDD := hide (fun W (h : Below (B + 1) (w.alloc (Obj.cells #[.int .i64 L, .slice A rows.length cc] 24)) W) => HD.out.below (h.mono (Nat.le_of_eq hsz)))
  have HCF := hide (fun W (h : RowD W D ds) => cfIIProves_any ds D dc W h hdb)
  have k0 := hbx.c0
  have k1 := hbx.c1
  have hc1 : B + 1 ≤ (w.alloc (Obj.cells #[.int .i64 L, .slice A rows.length cc] 24)).heap.size := by omega
  have hB := Below.refl (B + 1) (w.alloc (Obj.cells #[.int .i64 L, .slice A rows.length cc] 24))
  have m0 := hbx.b0 hB
  have m1 := hbx.b1 hB
  clear hR hT hD
  cases hg : grt L rows.length with
  | true =>
    rw [hg] at HG
    clear hg
    go_enter Tryd.func5, Tryd.ntmps5
    go_wp2_with fail
    generalize w.alloc (Obj.cells #[.int .i64 L, .slice A rows.length cc] 24) = W1 at hB0 HR HT HRR HTT HD HDD hbx k0 k1 hsz hc1 hB m0 m1 ⊢
    go_wp2_with (first
      | (go_at_call 11; refine (HG.out _).mono ?_; rintro e w2 ⟨rfl, hX⟩; replace hB := Below.go hB hc1 hX; replace m0 := hbx.b0 hB; replace m1 := hbx.b1 hB)
      | (go_at_call 14; refine (HAW.out _ (HTT.out _ hB)).mono ?_; rintro e w3 ⟨rfl, hX⟩; replace hB := Below.go hB hc1 hX))
    go_ret
    exact ⟨rfl, hBB ▸ hB0.trans (hB.mono (by omega))⟩
  | false =>
    rw [hg] at HG
    by_cases h1 : ds.length ≤ 40
    · by_cases h2 : s.size ≤ 40
      · by_cases h3 : t.size ≤ 40
        · cases h4 : ds.any longB with
          | true =>
            rw [h4] at HCF
            clear hg h4
            go_enter Tryd.func5, Tryd.ntmps5
            go_wp2_with fail
            generalize w.alloc (Obj.cells #[.int .i64 L, .slice A rows.length cc] 24) = W1 at hB0 HR HT HRR HTT HD HDD hbx k0 k1 hsz hc1 hB m0 m1 ⊢
            go_wp2_with (first
              | (go_at_call 11; refine (HG.out _).mono ?_; rintro e w2 ⟨rfl, hX⟩; replace hB := Below.go hB hc1 hX; replace m0 := hbx.b0 hB; replace m1 := hbx.b1 hB)
              | (go_at_call 12; (with_reducible refine (HCF.out _ (HDD.out _ hB)).mono ?_); rintro e w6 ⟨rfl, rfl⟩)
              | (go_at_call 14; refine (HAW.out _ (HTT.out _ hB)).mono ?_; rintro e w3 ⟨rfl, hX⟩; replace hB := Below.go hB hc1 hX))
            go_ret
            exact ⟨rfl, hBB ▸ hB0.trans (hB.mono (by omega))⟩
          | false =>
            rw [h4] at HCF
            have hx : ∀ x ∈ ds, x.length ≤ 70 := fun x hx => by
              have := List.any_eq_false.1 h4 x hx
              unfold longB at this
              rw [decide_eq_true_iff] at this
              omega
            have HCK := hide (fun W (h : RowD W A rows) (hT : TabZ W) (hD : RowD W D ds) => zCheckLayers_any L rows ds s A cc D dc W hg h hT hD hb hsb (by omega) hx)
            by_cases hc : cklV L rows ds s.data.toList = 0
            · rw [hc] at HCK
              have hvs : vrf L rows s.data.toList = 0 := by
                by_cases e : vrf L rows s.data.toList = 0
                · exact e
                · unfold cklV at hc; rw [if_pos e] at hc; exact absurd hc e
              have hck : ckw L rows s.data.toList = 0 := by
                by_cases e : ckw L rows s.data.toList = 0
                · exact e
                · rw [vrf_bad e] at hvs; exact absurd hvs e
              obtain ⟨h0, hk⟩ := ckw_ok hck
              obtain ⟨l, rfl, hA⟩ := aut_of hg h0
              have hW := okw_of hk
              have hsl : s.data.toList.length = s.size := by simp
              have htl : t.data.toList.length = t.size := by simp
              have hpr : ds.length = s.data.toList.length ∧ prv rows l ds = true := by
                by_cases e : ds.length = s.data.toList.length ∧ prv rows l ds = true
                · exact e
                · unfold cklV at hc; rw [if_neg (by simp [hvs]), Int.toNat_natCast, if_neg e] at hc; exact absurd hc (by decide)
              have hsg : ∀ u : List UInt8, ckw l rows u = 0 → vrf l rows u = 0 → sglB (led rows (fullS rows) u) = true := fun u hu hv => by
                rw [vrf_good hu] at hv
                cases e : sglB (led rows (fullS rows) u) with
                | true => rfl
                | false => rw [show 2 ^ rows.length - 1 = fullS rows from rfl, e] at hv; exact absurd hv (by decide)
              have hm := first_min hA (full_lt2 rows) hW (hsg _ hck hvs)
              have hf := first_from hA.L16 hm.1
              have hlen := key_len hA.L16 hf.1 hW hm.2
              obtain ⟨f, is, hfi⟩ : ∃ f is, first rows l (fullS rows) = (f, is) := ⟨_, _, rfl⟩
              rw [hfi] at hm hf hlen
              obtain rfl : is = true := hm.1
              have hfl : f.data.toList.length = f.size := by simp
              have hfs : f.size = s.size := by
                rcases Nat.lt_or_ge f.size s.size with e | e
                · have := prv_short hpr.2 hf.1 (by show f.data.toList.length < ds.length; omega)
                  rw [hf.2] at this; cases this
                · have : f.data.toList.length ≤ s.data.toList.length := hlen
                  omega
              have H1 := hide (fun W (h : RowD W A rows) (hT : TabZ W) => zShortest_any l rows A cc W hg h hT hb)
              rw [shrV_ok h0, hfi] at H1
              have HVS := hide (fun W (h : RowD W A rows) (hT : TabZ W) => zVerify_any l rows s A cc W hg h hT hb hsb)
              rw [hvs] at HVS
              have HVT := hide (fun W (h : RowD W A rows) (hT : TabZ W) => zVerify_any l rows t A cc W hg h hT hb htb)
              have hvt : t.size < s.size → vrf l rows t.data.toList ≠ 0 := fun hlt hv => by
                have hct : ckw l rows t.data.toList = 0 := by
                  by_cases e : ckw l rows t.data.toList = 0
                  · exact e
                  · rw [vrf_bad e] at hv; exact absurd hv e
                have := prv_short hpr.2 (okw_of (ckw_ok hct).2) (by omega)
                rw [hsg _ hct hv] at this; cases this
              have d1 : ((f.size : Int) != (s.size : Int)) = false := by rw [bne_eq_false_iff_eq]; omega
              clear hg h4 hx hc hvs hck h0 hk hA hW hsl htl hpr hsg hm hf hlen hfi hfl hfs
              by_cases hts : t.size < s.size
              · have hne : (vrf l rows t.data.toList != 0) = true := by rw [bne_iff_ne]; exact hvt hts
                have d2 : decide (s.size ≤ t.size) = false := decide_eq_false (by omega)
                clear hvt hts
                go_enter Tryd.func5, Tryd.ntmps5
                go_wp2_with fail
                generalize w.alloc (Obj.cells #[.int .i64 (l : Int), .slice A rows.length cc] 24) = W1 at hB0 HR HT HRR HTT HD HDD hbx k0 k1 hsz hc1 hB m0 m1 ⊢
                go_wp2_with (first
                  | (go_at_call 11; refine (HG.out _).mono ?_; rintro e w2 ⟨rfl, hX⟩; replace hB := Below.go hB hc1 hX; replace m0 := hbx.b0 hB; replace m1 := hbx.b1 hB)
                  | (go_at_call 12; (with_reducible refine (HCF.out _ (HDD.out _ hB)).mono ?_); rintro e w6 ⟨rfl, rfl⟩)
                  | (go_at_call 18; (with_reducible refine (HCK.out _ (HRR.out _ hB) (HTT.out _ hB) (HDD.out _ hB)).mono ?_); rintro e w7 ⟨rfl, hX⟩; replace hB := Below.go hB hc1 hX; replace m0 := hbx.b0 hB; replace m1 := hbx.b1 hB)
                  | (go_at_call 22; (with_reducible refine (H1.out _ (HRR.out _ hB) (HTT.out _ hB)).mono ?_); rintro e w4 ⟨rfl, hX⟩; replace hB := Below.go hB hc1 hX; replace m0 := hbx.b0 hB; replace m1 := hbx.b1 hB)
                  | (go_at_call 24; (with_reducible refine (HVS.out _ (HRR.out _ hB) (HTT.out _ hB)).mono ?_); rintro e w8 ⟨rfl, hX⟩; replace hB := Below.go hB hc1 hX; replace m0 := hbx.b0 hB; replace m1 := hbx.b1 hB)
                  | (go_at_call 24; (with_reducible refine (HVT.out _ (HRR.out _ hB) (HTT.out _ hB)).mono ?_); rintro e w9 ⟨rfl, hX⟩; replace hB := Below.go hB hc1 hX; replace m0 := hbx.b0 hB; replace m1 := hbx.b1 hB)
                  | (go_at_call 14; refine (HAW.out _ (HTT.out _ hB)).mono ?_; rintro e w3 ⟨rfl, hX⟩; replace hB := Below.go hB hc1 hX))
                go_ret
                exact ⟨rfl, hBB ▸ hB0.trans (hB.mono (by omega))⟩
              · have d2 : decide (s.size ≤ t.size) = true := decide_eq_true (by omega)
                clear hvt hts
                go_enter Tryd.func5, Tryd.ntmps5
                go_wp2_with fail
                generalize w.alloc (Obj.cells #[.int .i64 (l : Int), .slice A rows.length cc] 24) = W1 at hB0 HR HT HRR HTT HD HDD hbx k0 k1 hsz hc1 hB m0 m1 ⊢
                go_wp2_with (first
                  | (go_at_call 11; refine (HG.out _).mono ?_; rintro e w2 ⟨rfl, hX⟩; replace hB := Below.go hB hc1 hX; replace m0 := hbx.b0 hB; replace m1 := hbx.b1 hB)
                  | (go_at_call 12; (with_reducible refine (HCF.out _ (HDD.out _ hB)).mono ?_); rintro e w6 ⟨rfl, rfl⟩)
                  | (go_at_call 18; (with_reducible refine (HCK.out _ (HRR.out _ hB) (HTT.out _ hB) (HDD.out _ hB)).mono ?_); rintro e w7 ⟨rfl, hX⟩; replace hB := Below.go hB hc1 hX; replace m0 := hbx.b0 hB; replace m1 := hbx.b1 hB)
                  | (go_at_call 22; (with_reducible refine (H1.out _ (HRR.out _ hB) (HTT.out _ hB)).mono ?_); rintro e w4 ⟨rfl, hX⟩; replace hB := Below.go hB hc1 hX; replace m0 := hbx.b0 hB; replace m1 := hbx.b1 hB)
                  | (go_at_call 24; (with_reducible refine (HVS.out _ (HRR.out _ hB) (HTT.out _ hB)).mono ?_); rintro e w8 ⟨rfl, hX⟩; replace hB := Below.go hB hc1 hX; replace m0 := hbx.b0 hB; replace m1 := hbx.b1 hB)
                  | (go_at_call 14; refine (HAW.out _ (HTT.out _ hB)).mono ?_; rintro e w3 ⟨rfl, hX⟩; replace hB := Below.go hB hc1 hX))
                go_ret
                exact ⟨rfl, hBB ▸ hB0.trans (hB.mono (by omega))⟩
            · have hne : (cklV L rows ds s.data.toList != 0) = true := by rw [bne_iff_ne]; exact hc
              clear hg h4 hx hc
              go_enter Tryd.func5, Tryd.ntmps5
              go_wp2_with fail
              generalize w.alloc (Obj.cells #[.int .i64 L, .slice A rows.length cc] 24) = W1 at hB0 HR HT HRR HTT HD HDD hbx k0 k1 hsz hc1 hB m0 m1 ⊢
              go_wp2_with (first
                | (go_at_call 11; refine (HG.out _).mono ?_; rintro e w2 ⟨rfl, hX⟩; replace hB := Below.go hB hc1 hX; replace m0 := hbx.b0 hB; replace m1 := hbx.b1 hB)
                | (go_at_call 12; (with_reducible refine (HCF.out _ (HDD.out _ hB)).mono ?_); rintro e w6 ⟨rfl, rfl⟩)
                | (go_at_call 18; (with_reducible refine (HCK.out _ (HRR.out _ hB) (HTT.out _ hB) (HDD.out _ hB)).mono ?_); rintro e w7 ⟨rfl, hX⟩; replace hB := Below.go hB hc1 hX; replace m0 := hbx.b0 hB; replace m1 := hbx.b1 hB)
                | (go_at_call 14; refine (HAW.out _ (HTT.out _ hB)).mono ?_; rintro e w3 ⟨rfl, hX⟩; replace hB := Below.go hB hc1 hX))
              go_ret
              exact ⟨rfl, hBB ▸ hB0.trans (hB.mono (by omega))⟩
        · have h3' : 40 < t.size := by omega
          clear hg h3
          go_enter Tryd.func5, Tryd.ntmps5
          go_wp2_with fail
          generalize w.alloc (Obj.cells #[.int .i64 L, .slice A rows.length cc] 24) = W1 at hB0 HR HT HRR HTT HD HDD hbx k0 k1 hsz hc1 hB m0 m1 ⊢
          go_wp2_with (first
            | (go_at_call 11; refine (HG.out _).mono ?_; rintro e w2 ⟨rfl, hX⟩; replace hB := Below.go hB hc1 hX; replace m0 := hbx.b0 hB; replace m1 := hbx.b1 hB)
            | (go_at_call 14; refine (HAW.out _ (HTT.out _ hB)).mono ?_; rintro e w3 ⟨rfl, hX⟩; replace hB := Below.go hB hc1 hX))
          go_ret
          exact ⟨rfl, hBB ▸ hB0.trans (hB.mono (by omega))⟩
      · have h2' : 40 < s.size := by omega
        clear hg h2
        go_enter Tryd.func5, Tryd.ntmps5
        go_wp2_with fail
        generalize w.alloc (Obj.cells #[.int .i64 L, .slice A rows.length cc] 24) = W1 at hB0 HR HT HRR HTT HD HDD hbx k0 k1 hsz hc1 hB m0 m1 ⊢
        go_wp2_with (first
          | (go_at_call 11; refine (HG.out _).mono ?_; rintro e w2 ⟨rfl, hX⟩; replace hB := Below.go hB hc1 hX; replace m0 := hbx.b0 hB; replace m1 := hbx.b1 hB)
          | (go_at_call 14; refine (HAW.out _ (HTT.out _ hB)).mono ?_; rintro e w3 ⟨rfl, hX⟩; replace hB := Below.go hB hc1 hX))
        go_ret
        exact ⟨rfl, hBB ▸ hB0.trans (hB.mono (by omega))⟩
    · have h1' : 40 < ds.length := by omega
      clear hg h1
      go_enter Tryd.func5, Tryd.ntmps5
      go_wp2_with fail
      generalize w.alloc (Obj.cells #[.int .i64 L, .slice A rows.length cc] 24) = W1 at hB0 HR HT HRR HTT HD HDD hbx k0 k1 hsz hc1 hB m0 m1 ⊢
      go_wp2_with (first
        | (go_at_call 11; refine (HG.out _).mono ?_; rintro e w2 ⟨rfl, hX⟩; replace hB := Below.go hB hc1 hX; replace m0 := hbx.b0 hB; replace m1 := hbx.b1 hB)
        | (go_at_call 14; refine (HAW.out _ (HTT.out _ hB)).mono ?_; rintro e w3 ⟨rfl, hX⟩; replace hB := Below.go hB hc1 hX))
      go_ret
      exact ⟨rfl, hBB ▸ hB0.trans (hB.mono (by omega))⟩
end Go.Proofs.YtmokccidpnpimaaDoor
