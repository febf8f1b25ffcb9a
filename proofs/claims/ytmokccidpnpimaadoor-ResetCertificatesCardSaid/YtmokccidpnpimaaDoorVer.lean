/- reset.check, Verify of both sides. -/
import Derived.Test.YtmokccidpnpimaaDoorLead
import Derived.Test.YtmokccidpnpimaaDoorChkR
import Derived.Test.YtmokccidpnpimaaDoorChk44
set_option linter.unusedVariables false
namespace Go.Proofs.YtmokccidpnpimaaDoor
open Go.RowKit
theorem aut_of {L : Int} {rows : List (List Int)} (hg : grt L rows.length = false) (h : chkA L rows = 0) : ∃ l : Nat, L = l ∧ Aut rows l := by
  unfold chkA at h
  by_cases h1 : L < 1 ∨ 8 < L
  · rw [if_pos h1] at h; cases h
  rw [if_neg h1] at h
  by_cases h2 : rows.length = 0
  · rw [if_pos h2] at h; cases h
  rw [if_neg h2] at h
  by_cases h3 : 16 < rows.length
  · rw [if_pos h3] at h; cases h
  rw [if_neg h3] at h
  unfold grt at hg
  simp at hg
  refine ⟨L.toNat, by omega, h, by omega, ?_, by omega, ?_⟩
  · have := hg.1.1; omega
  · have := hg.2; omega
/-- what is wrong with an automaton and a word -/
def ckw (L : Int) (rows : List (List Int)) (l : List UInt8) : Int := if chkA L rows = 0 then chk L l else 1
theorem okw_of {L : Nat} {l : List UInt8} (h : chk L l = 0) : OkW L l := by
  unfold chk at h
  by_cases h1 : (L : Int) < 1 ∨ 16 < (L : Int)
  · rw [if_pos h1] at h; cases h
  rw [if_neg h1] at h
  by_cases h2 : 65536 < l.length
  · rw [if_pos h2] at h; cases h
  rw [if_neg h2] at h
  by_cases h3 : l.all (okc L) = true
  · intro b hb
    have := List.all_eq_true.1 h3 b hb
    unfold okc at this
    exact of_decide_eq_true this
  · rw [if_neg h3] at h; cases h
set_option maxRecDepth 100000 in
set_option maxHeartbeats 4000000 in
theorem zcheck_any (L : Int) (rows : List (List Int)) (s : ByteArray) (A : Option Addr) (cc : Nat) (w : World) (hR : RowD w A rows) (hb : rows.length ≤ 9223372036854775807) :
    Calls Tryd.prog 47 #[.agg #[.int .i64 L, .slice A rows.length cc], .string s] w fun e w' => e = .returned (.int .i64 (ckw L rows s.data.toList)) ∧ Below w.heap.size w w' := by
  have hB0 : Below w.heap.size w (w.alloc (Obj.cells #[.int .i64 L, .slice A rows.length cc] 24)) := (Below.refl _ w).alloc (Nat.le_refl _) _
  have HR := hide (hR.below hB0)
  obtain ⟨B, hBB⟩ : ∃ B, w.heap.size = B := ⟨_, rfl⟩
  have k0 : (w.alloc (Obj.cells #[.int .i64 L, .slice A rows.length cc] 24)).cell? ⟨B, 0, none⟩ = some (.int .i64 L) := by
    rw [cell_of_row _ B 0 _ _ _ (by rw [← hBB]; exact heap_alloc_new w _)]; rfl
  have k1 : (w.alloc (Obj.cells #[.int .i64 L, .slice A rows.length cc] 24)).cell? ⟨B, 1, none⟩ = some (.slice A rows.length cc) := by
    rw [cell_of_row _ B 1 _ _ _ (by rw [← hBB]; exact heap_alloc_new w _)]; rfl
  have hsz : (w.alloc (Obj.cells #[.int .i64 L, .slice A rows.length cc] 24)).heap.size = B + 1 := by rw [← hBB]; simp
  have HC := hide (fun W (h : RowD W A rows) => zCheck_any L rows A cc W h hb)
  have HK := hide (fun W => wcheck_any L s W)
  unfold ckw
  by_cases h0 : chkA L rows = 0
  · rw [if_pos h0]
    rw [h0] at HC
    clear hR
    go_enter Tryd.func47, Tryd.ntmps47
    go_wp2_with fail
    generalize w.alloc (Obj.cells #[.int .i64 L, .slice A rows.length cc] 24) = W1 at hB0 HR k0 k1 hsz ⊢
    have lB : B < W1.heap.size := by omega
    go_wp2_with (first
      | (go_at_call 29; refine (HC.out W1 HR.out).mono ?_; rintro e w2 ⟨rfl, hB2⟩; have m0 := (hB2.cell (p := ⟨B, 0, none⟩) lB).trans k0)
      | (go_at_call 63; refine (HK.out _).mono ?_; rintro e w3 ⟨rfl, q, rfl⟩))
    go_ret
    exact ⟨rfl, hBB ▸ belowN (hB0.trans (hB2.mono (by omega))) q⟩
  · rw [if_neg h0]
    have hne : (chkA L rows != 0) = true := by rw [bne_iff_ne]; exact h0
    clear hR
    go_enter Tryd.func47, Tryd.ntmps47
    go_wp2_with fail
    generalize w.alloc (Obj.cells #[.int .i64 L, .slice A rows.length cc] 24) = W1 at hB0 HR k0 k1 hsz ⊢
    go_wp2_with (go_at_call 29; refine (HC.out W1 HR.out).mono ?_; rintro e w2 ⟨rfl, hB2⟩)
    go_ret
    exact ⟨rfl, hBB ▸ hB0.trans (hB2.mono (by omega))⟩
/-- why a word is no reset word -/
def vrf (L : Int) (rows : List (List Int)) (l : List UInt8) : Int := if ckw L rows l ≠ 0 then ckw L rows l else if sglB (led rows (2 ^ rows.length - 1) l) then 0 else 20
theorem vrf_bad {L : Int} {rows : List (List Int)} {l : List UInt8} (h : ckw L rows l ≠ 0) : vrf L rows l = ckw L rows l := by unfold vrf; rw [if_pos h]
theorem vrf_good {L : Int} {rows : List (List Int)} {l : List UInt8} (h : ckw L rows l = 0) : vrf L rows l = if sglB (led rows (2 ^ rows.length - 1) l) then 0 else 20 := by unfold vrf; rw [if_neg (by simp [h])]
theorem ckw_ok {L : Int} {rows : List (List Int)} {l : List UInt8} (h : ckw L rows l = 0) : chkA L rows = 0 ∧ chk L l = 0 := by
  unfold ckw at h
  by_cases h0 : chkA L rows = 0
  · rw [if_pos h0] at h; exact ⟨h0, h⟩
  · rw [if_neg h0] at h; cases h
theorem full_lt (n : Nat) : 2 ^ n - 1 < 2 ^ n := by have := Nat.pow_pos (n := n) (show 0 < 2 by decide); omega
set_option maxRecDepth 100000 in
set_option maxHeartbeats 4000000 in
theorem zVerify_any (L : Int) (rows : List (List Int)) (s : ByteArray) (A : Option Addr) (cc : Nat) (w : World) (hg : grt L rows.length = false) (hR : RowD w A rows) (hT : TabZ w) (hb : rows.length ≤ 9223372036854775807) (hsb : s.size ≤ 9223372036854775807) :
    Calls Tryd.prog 24 #[.agg #[.int .i64 L, .slice A rows.length cc], .string s] w fun e w' => e = .returned (.int .i64 (vrf L rows s.data.toList)) ∧ Below w.heap.size w w' := by
  have hB0 : Below w.heap.size w (w.alloc (Obj.cells #[.int .i64 L, .slice A rows.length cc] 24)) := (Below.refl _ w).alloc (Nat.le_refl _) _
  have HR := hide (hR.below hB0)
  have HT := hide (hT.below hB0)
  obtain ⟨B, hBB⟩ : ∃ B, w.heap.size = B := ⟨_, rfl⟩
  have k0 : (w.alloc (Obj.cells #[.int .i64 L, .slice A rows.length cc] 24)).cell? ⟨B, 0, none⟩ = some (.int .i64 L) := by
    rw [cell_of_row _ B 0 _ _ _ (by rw [← hBB]; exact heap_alloc_new w _)]; rfl
  have k1 : (w.alloc (Obj.cells #[.int .i64 L, .slice A rows.length cc] 24)).cell? ⟨B, 1, none⟩ = some (.slice A rows.length cc) := by
    rw [cell_of_row _ B 1 _ _ _ (by rw [← hBB]; exact heap_alloc_new w _)]; rfl
  have hsz : (w.alloc (Obj.cells #[.int .i64 L, .slice A rows.length cc] 24)).heap.size = B + 1 := by rw [← hBB]; simp
  have HC := hide (fun W (h : RowD W A rows) => zcheck_any L rows s A cc W h hb)
  by_cases h0 : ckw L rows s.data.toList = 0
  · have HV := hide (vrf_good h0)
    rw [h0] at HC
    obtain ⟨l, rfl, hA⟩ := aut_of hg (ckw_ok h0).1
    have hW := okw_of (ckw_ok h0).2
    have hn := hA.n6
    have hF := hA.led_lt (full_lt rows.length) hW
    obtain ⟨V, hVV⟩ : ∃ V, led rows (2 ^ rows.length - 1) s.data.toList = V := ⟨_, rfl⟩
    have HL := hide (fun W (h : RowD W A rows) (hT : TabZ W) => zlead_any rows l _ s A cc W hA (full_lt _) hW hsb h hT)
    rw [hVV] at HV HL hF
    have HX := hide (fun W => zsingle_any V W (Nat.lt_of_lt_of_le hF hA.pow))
    have HF := hide (fun W => zall_any rows l A cc W (by omega))
    obtain ⟨F, hFF⟩ : ∃ F, 2 ^ rows.length - 1 = F := ⟨_, rfl⟩
    rw [hFF] at HL HF
    clear hR hT hg h0 hA hW hVV hF hFF
    go_enter Tryd.func24, Tryd.ntmps24
    go_wp2_with fail
    generalize w.alloc (Obj.cells #[.int .i64 (l : Int), .slice A rows.length cc] 24) = W1 at hB0 HR HT k0 k1 hsz ⊢
    have lB : B < W1.heap.size := by omega
    go_wp2_with (go_at_call 47; refine (HC.out W1 HR.out).mono ?_; rintro e w2 ⟨rfl, hB2⟩)
    have hAcc : Below W1.heap.size W1 w2.drew := hB2.drew
    have m0 := (hAcc.cell (p := ⟨B, 0, none⟩) lB).trans k0
    have m1 := (hAcc.cell (p := ⟨B, 1, none⟩) lB).trans k1
    go_region_held3 (fun W => W.cell? ⟨B, 0, none⟩ = some (.int .i64 l) ∧ W.cell? ⟨B, 1, none⟩ = some (.slice A rows.length cc))
      (first | with_reducible exact ⟨m0, m1⟩)
      (first
        | (go_at_call 37; refine (HF.out _).mono ?_; rintro e w3 ⟨rfl, hB3⟩; replace hAcc := hAcc.trans (hB3.mono hAcc.size); replace m0 := (hAcc.cell (p := ⟨B, 0, none⟩) lB).trans k0; replace m1 := (hAcc.cell (p := ⟨B, 1, none⟩) lB).trans k1)
        | (go_at_call 49; refine (HL.out _ (HR.out.below hAcc) (HT.out.below hAcc)).mono ?_; rintro e w4 ⟨rfl, hB4⟩; replace hAcc := hAcc.trans (hB4.mono hAcc.size); replace m0 := (hAcc.cell (p := ⟨B, 0, none⟩) lB).trans k0; replace m1 := (hAcc.cell (p := ⟨B, 1, none⟩) lB).trans k1)
        | (go_at_call 48; refine (HX.out _).mono ?_; rintro e w5 ⟨rfl, rfl⟩))
    all_goals (
      cases hs : sglB V with
      | true =>
        rw [hs] at HV
        go_wp2
        go_ret
        exact ⟨by rw [HV.out]; rfl, hBB ▸ hB0.trans (hAcc.mono (by omega))⟩
      | false =>
        rw [hs] at HV
        go_wp2
        go_ret
        exact ⟨by rw [HV.out]; rfl, hBB ▸ hB0.trans (hAcc.mono (by omega))⟩)
  · have hne : (ckw L rows s.data.toList != 0) = true := by rw [bne_iff_ne]; exact h0
    rw [vrf_bad h0]
    clear hR hT
    go_enter Tryd.func24, Tryd.ntmps24
    go_wp2_with fail
    generalize w.alloc (Obj.cells #[.int .i64 L, .slice A rows.length cc] 24) = W1 at hB0 HR HT k0 k1 hsz ⊢
    go_wp2_with (go_at_call 47; refine (HC.out W1 HR.out).mono ?_; rintro e w2 ⟨rfl, hB2⟩)
    go_ret
    exact ⟨rfl, hBB ▸ hB0.trans (hB2.mono (by omega))⟩
set_option maxRecDepth 100000 in
set_option maxHeartbeats 4000000 in
theorem zrVerify_any (L : Int) (rows : List (List Int)) (s : ByteArray) (A : Option Addr) (cc : Nat) (w : World) (hg : grt L rows.length = false) (hR : RowD w A rows) (hT : TabZ w) (hb : rows.length ≤ 9223372036854775807) (hsb : s.size ≤ 9223372036854775807) :
    Calls Tryd.prog 31 #[.agg #[.int .i64 L, .slice A rows.length cc], .string s] w fun e w' => e = .returned (.int .i64 (vrf L rows s.data.toList)) ∧ Below w.heap.size w w' := by
  have hB0 : Below w.heap.size w (w.alloc (Obj.cells #[.int .i64 L, .slice A rows.length cc] 24)) := (Below.refl _ w).alloc (Nat.le_refl _) _
  have HR := hide (hR.below hB0)
  have HT := hide (hT.below hB0)
  obtain ⟨B, hBB⟩ : ∃ B, w.heap.size = B := ⟨_, rfl⟩
  have k0 : (w.alloc (Obj.cells #[.int .i64 L, .slice A rows.length cc] 24)).cell? ⟨B, 0, none⟩ = some (.int .i64 L) := by
    rw [cell_of_row _ B 0 _ _ _ (by rw [← hBB]; exact heap_alloc_new w _)]; rfl
  have k1 : (w.alloc (Obj.cells #[.int .i64 L, .slice A rows.length cc] 24)).cell? ⟨B, 1, none⟩ = some (.slice A rows.length cc) := by
    rw [cell_of_row _ B 1 _ _ _ (by rw [← hBB]; exact heap_alloc_new w _)]; rfl
  have hsz : (w.alloc (Obj.cells #[.int .i64 L, .slice A rows.length cc] 24)).heap.size = B + 1 := by rw [← hBB]; simp
  have HC := hide (fun W (h : RowD W A rows) => zrCheck_any L rows A cc W h hb)
  have HK := hide (fun W => rcheck_any L s W)
  by_cases h0 : ckw L rows s.data.toList = 0
  · have HV := hide (vrf_good h0)
    have hk0 := ckw_ok h0
    rw [hk0.1] at HC
    rw [hk0.2] at HK
    obtain ⟨l, rfl, hA⟩ := aut_of hg (ckw_ok h0).1
    have hW := okw_of (ckw_ok h0).2
    have hn := hA.n6
    have hF := hA.led_lt (full_lt rows.length) hW
    obtain ⟨V, hVV⟩ : ∃ V, led rows (2 ^ rows.length - 1) s.data.toList = V := ⟨_, rfl⟩
    have HL := hide (fun W (h : RowD W A rows) (hT : TabZ W) => zalong_any rows l _ s A cc W hA (full_lt _) hW hsb h hT)
    rw [hVV] at HV HL hF
    have HX := hide (fun W => zrsingle_any V W (Nat.lt_of_lt_of_le hF hA.pow))
    have HF := hide (fun W => zfull_any rows l A cc W (by omega))
    obtain ⟨F, hFF⟩ : ∃ F, 2 ^ rows.length - 1 = F := ⟨_, rfl⟩
    rw [hFF] at HL HF
    clear hR hT hg h0 hA hW hVV hF hFF hk0
    go_enter Tryd.func31, Tryd.ntmps31
    go_wp2_with fail
    generalize w.alloc (Obj.cells #[.int .i64 (l : Int), .slice A rows.length cc] 24) = W1 at hB0 HR HT k0 k1 hsz ⊢
    have lB : B < W1.heap.size := by omega
    go_wp2_with (first
      | (go_at_call 20; refine (HC.out W1 HR.out).mono ?_; rintro e w2 ⟨rfl, hB2⟩; have m0 := (hB2.cell (p := ⟨B, 0, none⟩) lB).trans k0)
      | (go_at_call 21; refine (HK.out _).mono ?_; rintro e w3 ⟨rfl, rfl⟩))
    have hAcc : Below W1.heap.size W1 w2.drew := hB2.drew
    have m0 := (hAcc.cell (p := ⟨B, 0, none⟩) lB).trans k0
    have m1 := (hAcc.cell (p := ⟨B, 1, none⟩) lB).trans k1
    go_region_held3 (fun W => W.cell? ⟨B, 0, none⟩ = some (.int .i64 l) ∧ W.cell? ⟨B, 1, none⟩ = some (.slice A rows.length cc))
      (first | with_reducible exact ⟨m0, m1⟩)
      (first
        | (go_at_call 41; refine (HF.out _).mono ?_; rintro e w3 ⟨rfl, hB3⟩; replace hAcc := hAcc.trans (hB3.mono hAcc.size); replace m0 := (hAcc.cell (p := ⟨B, 0, none⟩) lB).trans k0; replace m1 := (hAcc.cell (p := ⟨B, 1, none⟩) lB).trans k1)
        | (go_at_call 51; refine (HL.out _ (HR.out.below hAcc) (HT.out.below hAcc)).mono ?_; rintro e w4 ⟨rfl, hB4⟩; replace hAcc := hAcc.trans (hB4.mono hAcc.size); replace m0 := (hAcc.cell (p := ⟨B, 0, none⟩) lB).trans k0; replace m1 := (hAcc.cell (p := ⟨B, 1, none⟩) lB).trans k1)
        | (go_at_call 44; refine (HX.out _).mono ?_; rintro e w5 ⟨rfl, rfl⟩))
    all_goals (
      cases hs : sglB V with
      | true =>
        rw [hs] at HV
        go_wp2
        go_ret
        exact ⟨by rw [HV.out]; rfl, hBB ▸ hB0.trans (hAcc.mono (by omega))⟩
      | false =>
        rw [hs] at HV
        go_wp2
        go_ret
        exact ⟨by rw [HV.out]; rfl, hBB ▸ hB0.trans (hAcc.mono (by omega))⟩)
  · rw [vrf_bad h0]
    unfold ckw at h0 ⊢
    clear hT
    by_cases hc : chkA L rows = 0
    · rw [if_pos hc] at h0 ⊢
      rw [hc] at HC
      have hne : (chk L s.data.toList != 0) = true := by rw [bne_iff_ne]; exact h0
      clear hR
      go_enter Tryd.func31, Tryd.ntmps31
      go_wp2_with fail
      generalize w.alloc (Obj.cells #[.int .i64 L, .slice A rows.length cc] 24) = W1 at hB0 HR HT k0 k1 hsz ⊢
      have lB : B < W1.heap.size := by omega
      go_wp2_with (first
      | (go_at_call 20; refine (HC.out W1 HR.out).mono ?_; rintro e w2 ⟨rfl, hB2⟩; have m0 := (hB2.cell (p := ⟨B, 0, none⟩) lB).trans k0)
      | (go_at_call 21; refine (HK.out _).mono ?_; rintro e w3 ⟨rfl, rfl⟩))
      go_ret
      exact ⟨rfl, hBB ▸ hB0.trans (hB2.mono (by omega))⟩
    · rw [if_neg hc]
      have hne : (chkA L rows != 0) = true := by rw [bne_iff_ne]; exact hc
      clear hR
      go_enter Tryd.func31, Tryd.ntmps31
      go_wp2_with fail
      generalize w.alloc (Obj.cells #[.int .i64 L, .slice A rows.length cc] 24) = W1 at hB0 HR HT k0 k1 hsz ⊢
      go_wp2_with (go_at_call 20; refine (HC.out W1 HR.out).mono ?_; rintro e w2 ⟨rfl, hB2⟩)
      go_ret
      exact ⟨rfl, hBB ▸ hB0.trans (hB2.mono (by omega))⟩
end Go.Proofs.YtmokccidpnpimaaDoor
