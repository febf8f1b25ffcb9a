/- reset.CheckLayers: its contract. -/
import Derived.Test.YtmokccidpnpimaaDoorPrv
set_option linter.unusedVariables false
namespace Go.Proofs.YtmokccidpnpimaaDoor
open Go.RowKit Go.Maps
/-- why layers do not prove that a word is a shortest reset word -/
def cklV (L : Int) (rows : List (List Int)) (ls : List (List Int)) (l : List UInt8) : Int := if vrf L rows l ≠ 0 then vrf L rows l else if ls.length = l.length ∧ prv rows L.toNat ls = true then 0 else 23
set_option maxRecDepth 100000 in
set_option maxHeartbeats 4000000 in
theorem zCheckLayers_any (L : Int) (rows : List (List Int)) (ls : List (List Int)) (s : ByteArray) (A : Option Addr) (cc : Nat) (D : Option Addr) (dc : Nat) (w : World) (hg : grt L rows.length = false) (hR : RowD w A rows) (hT : TabZ w) (hD : RowD w D ls) (hb : rows.length ≤ 9223372036854775807) (hsb : s.size ≤ 9223372036854775807) (hl : ls.length ≤ 70) (hx : ∀ x ∈ ls, x.length ≤ 70) :
    Calls Tryd.prog 18 #[.agg #[.int .i64 L, .slice A rows.length cc], .slice D ls.length dc, .string s] w fun e w' => e = .returned (.int .i64 (cklV L rows ls s.data.toList)) ∧ Below w.heap.size w w' := by
  have hB0 : Below w.heap.size w (w.alloc (Obj.cells #[.int .i64 L, .slice A rows.length cc] 24)) := (Below.refl _ w).alloc (Nat.le_refl _) _
  have HR := hide (hR.below hB0)
  have HT := hide (hT.below hB0)
  have HD := hide (hD.below hB0)
  obtain ⟨B, hBB⟩ : ∃ B, w.heap.size = B := ⟨_, rfl⟩
  have hbx : BoxA (w.alloc (Obj.cells #[.int .i64 L, .slice A rows.length cc] 24)) B L A rows.length cc := by rw [← hBB]; exact heap_alloc_new w _
  have k0 := hbx.c0
  have k1 := hbx.c1
  have hsz : (w.alloc (Obj.cells #[.int .i64 L, .slice A rows.length cc] 24)).heap.size = B + 1 := by rw [← hBB]; simp
  have HV := hide (fun W (h : RowD W A rows) (hT : TabZ W) => zVerify_any L rows s A cc W hg h hT hb hsb)
  have hsl : s.data.toList.length = s.size := by simp
  by_cases h0 : vrf L rows s.data.toList = 0
  · have hck : ckw L rows s.data.toList = 0 := by
      by_cases hc : ckw L rows s.data.toList = 0
      · exact hc
      · rw [vrf_bad hc] at h0; exact absurd h0 hc
    obtain ⟨l, rfl, hA⟩ := aut_of hg (ckw_ok hck).1
    rw [h0] at HV
    have HE := hide (show cklV l rows ls s.data.toList = if ls.length = s.size ∧ prv rows l ls = true then 0 else 23 by unfold cklV; rw [if_neg (by simp [h0]), Int.toNat_natCast, hsl])
    have HP := hide (fun W (h : RowD W A rows) (hT : TabZ W) (hD : RowD W D ls) => zproves_any rows l A cc ls D dc W hA h hT hD hl hx)
    by_cases hll : ls.length = s.size
    · obtain ⟨u, hu⟩ : ∃ u, prv rows l ls = u := ⟨_, rfl⟩
      rw [hu] at HE HP
      have hnn : ((ls.length : Int) != (s.size : Int)) = false := by rw [bne_eq_false_iff_eq]; omega
      have HLL := hide hll
      clear hR hT hD hg h0 hA hu hx hck hll
      cases u with
      | true =>
        go_enter Tryd.func18, Tryd.ntmps18
        go_wp2_with fail
        generalize w.alloc (Obj.cells #[.int .i64 (l : Int), .slice A rows.length cc] 24) = W1 at hB0 HR HT HD hbx k0 k1 hsz ⊢
        have lB : B < W1.heap.size := by omega
        go_wp2_with (first
          | (go_at_call 24; refine (HV.out W1 HR.out HT.out).mono ?_; rintro e w2 ⟨rfl, hB2⟩; have m0 := (hB2.cell (p := ⟨B, 0, none⟩) lB).trans k0; have m1 := (hB2.cell (p := ⟨B, 1, none⟩) lB).trans k1)
          | (go_at_call 43; refine (HP.out _ (HR.out.below hB2) (HT.out.below hB2) (HD.out.below hB2)).mono ?_; rintro e w3 ⟨rfl, hB3⟩))
        go_ret
        exact ⟨by rw [HE.out, if_pos ⟨HLL.out, by trivial⟩]; rfl, hBB ▸ hB0.trans ((hB2.trans (hB3.mono hB2.size)).mono (by omega))⟩
      | false =>
        go_enter Tryd.func18, Tryd.ntmps18
        go_wp2_with fail
        generalize w.alloc (Obj.cells #[.int .i64 (l : Int), .slice A rows.length cc] 24) = W1 at hB0 HR HT HD hbx k0 k1 hsz ⊢
        have lB : B < W1.heap.size := by omega
        go_wp2_with (first
          | (go_at_call 24; refine (HV.out W1 HR.out HT.out).mono ?_; rintro e w2 ⟨rfl, hB2⟩; have m0 := (hB2.cell (p := ⟨B, 0, none⟩) lB).trans k0; have m1 := (hB2.cell (p := ⟨B, 1, none⟩) lB).trans k1)
          | (go_at_call 43; refine (HP.out _ (HR.out.below hB2) (HT.out.below hB2) (HD.out.below hB2)).mono ?_; rintro e w3 ⟨rfl, hB3⟩))
        go_ret
        exact ⟨by rw [HE.out, if_neg (fun h => by cases h.2)]; rfl, hBB ▸ hB0.trans ((hB2.trans (hB3.mono hB2.size)).mono (by omega))⟩
    · have hnn : ((ls.length : Int) != (s.size : Int)) = true := by rw [bne_iff_ne]; omega
      have HLL := hide hll
      clear hR hT hD hg h0 hA hx hck hll HP
      go_enter Tryd.func18, Tryd.ntmps18
      go_wp2_with fail
      generalize w.alloc (Obj.cells #[.int .i64 (l : Int), .slice A rows.length cc] 24) = W1 at hB0 HR HT HD hbx k0 k1 hsz ⊢
      have lB : B < W1.heap.size := by omega
      go_wp2_with (go_at_call 24; refine (HV.out W1 HR.out HT.out).mono ?_; rintro e w2 ⟨rfl, hB2⟩)
      go_ret
      exact ⟨by rw [HE.out, if_neg (fun h => HLL.out h.1)]; rfl, hBB ▸ hB0.trans (hB2.mono (by omega))⟩
  · have hne : (vrf L rows s.data.toList != 0) = true := by rw [bne_iff_ne]; exact h0
    have HE := hide (show cklV L rows ls s.data.toList = vrf L rows s.data.toList by unfold cklV; rw [if_pos h0])
    clear hR hT hD hg h0 hx
    go_enter Tryd.func18, Tryd.ntmps18
    go_wp2_with fail
    generalize w.alloc (Obj.cells #[.int .i64 L, .slice A rows.length cc] 24) = W1 at hB0 HR HT HD hbx k0 k1 hsz ⊢
    go_wp2_with (go_at_call 24; refine (HV.out W1 HR.out HT.out).mono ?_; rintro e w2 ⟨rfl, hB2⟩)
    go_ret
    exact ⟨by rw [HE.out]; rfl, hBB ▸ hB0.trans (hB2.mono (by omega))⟩
end Go.Proofs.YtmokccidpnpimaaDoor
