/- grooveref44.Apply: its contract. -/
import Derived.Test.YtmokccidpnpimaaDoorGre
set_option linter.unusedVariables false
namespace Go.Proofs.YtmokccidpnpimaaDoor
open Go.RowKit Go.Maps
set_option maxRecDepth 100000 in
set_option maxHeartbeats 4000000 in
theorem zrApply_any (L : Int) (rows : List (List Int)) (set : List Int) (s : ByteArray) (A : Option Addr) (cc : Nat) (D : Option Addr) (dc : Nat) (w : World) (hg : grt L rows.length = false) (hR : RowD w A rows) (hT : TabZ w) (hD : RowI w D set) (hb : rows.length ≤ 9223372036854775807) (hsb : s.size ≤ 9223372036854775807) (hdb : set.length ≤ 9223372036854775807) :
    Calls Tryd.prog 28 #[.agg #[.int .i64 L, .slice A rows.length cc], .slice D set.length dc, .string s] w fun e w' => ∃ v, e = .returned (.tuple #[v, .int .i64 (apyE L rows set s.data.toList)]) ∧ Ints w' w.heap.size v (apyO L rows set s.data.toList) ∧ Below w.heap.size w w' := by
  have hB0 : Below w.heap.size w (w.alloc (Obj.cells #[.int .i64 L, .slice A rows.length cc] 24)) := (Below.refl _ w).alloc (Nat.le_refl _) _
  have HR := hide (hR.below hB0)
  have HT := hide (hT.below hB0)
  have HD := hide (hD.below hB0)
  obtain ⟨B, hBB⟩ : ∃ B, w.heap.size = B := ⟨_, rfl⟩
  have hbx : BoxA (w.alloc (Obj.cells #[.int .i64 L, .slice A rows.length cc] 24)) B L A rows.length cc := by rw [← hBB]; exact heap_alloc_new w _
  have k0 := hbx.c0
  have k1 := hbx.c1
  have hsz : (w.alloc (Obj.cells #[.int .i64 L, .slice A rows.length cc] 24)).heap.size = B + 1 := by rw [← hBB]; simp
  have HC := hide (fun W (h : RowD W A rows) => zrCheck_any L rows A cc W h hb)
  have HK := hide (fun W => rcheck_any L s W)
  by_cases h0 : ckw L rows s.data.toList = 0
  · have hk0 := ckw_ok h0
    rw [hk0.1] at HC
    rw [hk0.2] at HK
    obtain ⟨l, rfl, hA⟩ := aut_of hg (ckw_ok h0).1
    have hW := okw_of (ckw_ok h0).2
    have hn := hA.n6
    have HA := hide hA
    have HW := hide hW
    have HE := hide (apyE_good (set := set) h0)
    have HO1 := hide (apyO_ok (L := (l : Int)) (rows := rows) (set := set) (l := s.data.toList))
    have HO0 := hide (apyO_no (L := (l : Int)) (rows := rows) (set := set) (l := s.data.toList))
    generalize apyO l rows set s.data.toList = O at HO1 HO0 ⊢
    generalize apyE l rows set s.data.toList = E at HE HO1 HO0 ⊢
    clear hR hT hD hg h0 hA hW hk0
    go_enter Tryd.func28, Tryd.ntmps28
    go_wp2_with fail
    generalize w.alloc (Obj.cells #[.int .i64 (l : Int), .slice A rows.length cc] 24) = W1 at hB0 HR HT HD hbx k0 k1 hsz ⊢
    have lB : B < W1.heap.size := by omega
    go_wp2_with (first
      | (go_at_call 20; refine (HC.out W1 HR.out).mono ?_; rintro e w2 ⟨rfl, hB2⟩; have m0 := (hB2.cell (p := ⟨B, 0, none⟩) lB).trans k0)
      | (go_at_call 21; refine (HK.out _).mono ?_; rintro e w3 ⟨rfl, rfl⟩))
    replace hB2 : Below (B + 1) W1 w2 := hB2.mono (Nat.le_of_eq hsz.symm)
    have hbx2 : BoxA w2 B l A rows.length cc := (hB2.block B (Nat.lt_succ_self B)).trans hbx
    have m1 := hbx2.c1
    have hs2 := hB2.size
    have HB2 := hide hB2
    have HBX := hide hbx2
    clear hB2 hbx2
    go_loopg [9, 10] set.length (fun gk nv iv wr => ∃ k : Nat, gk = set.length - k ∧ iv = .int .i64 k ∧ k ≤ set.length ∧ nv = .int .i64 (numK set k) ∧ Hid (∀ j, j < k → errAt rows.length set j = 0) ∧ ∃ q, wr = w2.drewN q)
    case atStart => exact ⟨0, rfl, rfl, Nat.zero_le _, rfl, hide (fun j h => absurd h (by omega)), 0, rfl⟩
    case round =>
      obtain ⟨k, hgk, rfl, hk, rfl, hok, q, rfl⟩ := hrel
      by_cases hks : k < set.length
      · obtain ⟨b, o, rfl, hbl, hcell⟩ := HD.out (by omega)
        have hcz := (HB2.out.cell (p := ⟨b, o + k, none⟩) (show b < B + 1 by omega)).trans (hcell k hks)
        rw [getD_get hks] at hcz
        have hcp : Hid (0 < k → w2.cell? ⟨b, o + (k - 1), none⟩ = some (.int .i64 (set.getD (k - 1) 0))) := hide fun h => by
          have := (HB2.out.cell (p := ⟨b, o + (k - 1), none⟩) (show b < B + 1 by omega)).trans (hcell (k - 1) (by omega))
          rw [getD_get (by omega)] at this
          exact this
        have i0 : (0 : Int) ≤ (k : Int) := by omega
        have i1 : (k : Int) < (set.length : Int) := by omega
        have HBAD := hide (fun h => show scn rows.length set = errAt rows.length set k from scnK_at hok.out h set.length hks)
        have HER := hide (show errAt rows.length set k = if set.getD k 0 < 0 ∨ (rows.length : Int) ≤ set.getD k 0 then 25 else if 0 < k ∧ set.getD k 0 ≤ set.getD (k - 1) 0 then 10 else 0 from rfl)
        have HNK := hide (show numK set (k + 1) = numK set k ||| 2 ^ (set.getD k 0).toNat from rfl)
        have hN64 : numK set k < 64 := Nat.lt_of_lt_of_le (numK_lt k hok.out) HA.out.pow
        obtain ⟨z, hz⟩ : ∃ z, set.getD k 0 = z := ⟨_, rfl⟩
        rw [hz] at hcz HER HNK
        obtain ⟨p, hp⟩ : ∃ p, set.getD (k - 1) 0 = p := ⟨_, rfl⟩
        rw [hp] at hcp HER
        clear hz hp hcell
        by_cases hz1 : z < 0
        · have hR1 := hide (show E = 25 by rw [HE.out, HBAD.out (by rw [HER.out, if_pos (.inl hz1)]; decide), HER.out, if_pos (.inl hz1)])
          have hR2 := hide (HO0.out (by rw [hR1.out]; decide))
          have e1 : decide (z < 0) = true := decide_eq_true hz1
          clear hcp HBAD HER hz1
          go_wp2_with fail
          go_quiet (fail)
          go_wp2
          go_ret2
          exact ⟨_, by rw [hR1.out]; rfl, by rw [hR2.out]; exact Ints.nil_ _ _, hBB ▸ hB0.trans (belowN (belowN (HB2.out.mono (by omega)) _) _)⟩
        · have e1 : decide (z < 0) = false := decide_eq_false hz1
          by_cases hz2 : (rows.length : Int) ≤ z
          · have hR1 := hide (show E = 25 by rw [HE.out, HBAD.out (by rw [HER.out, if_pos (.inr hz2)]; decide), HER.out, if_pos (.inr hz2)])
            have hR2 := hide (HO0.out (by rw [hR1.out]; decide))
            have e2 : decide ((rows.length : Int) ≤ z) = true := decide_eq_true hz2
            clear hcp HBAD HER hz1 hz2
            go_wp2_with fail
            go_quiet (fail)
            go_wp2
            go_ret2
            exact ⟨_, by rw [hR1.out]; rfl, by rw [hR2.out]; exact Ints.nil_ _ _, hBB ▸ hB0.trans (belowN (belowN (HB2.out.mono (by omega)) _) _)⟩
          · have e2 : decide ((rows.length : Int) ≤ z) = false := decide_eq_false hz2
            have hnz : ¬ (z < 0 ∨ (rows.length : Int) ≤ z) := by omega
            obtain ⟨x, rfl⟩ := Int.eq_ofNat_of_zero_le (show (0 : Int) ≤ z by omega)
            have hx6 : x < 6 := by omega
            have hor := orS _ hN64 x hx6
            rw [Int.toNat_natCast] at HNK
            have h63 : ¬ (63 : Int) < (x : Int) := by omega
            have e3 : decide (rows.length ≤ x) = false := decide_eq_false (by omega)
            have hx0 : (0 : Int) ≤ (x : Int) := by omega
            by_cases hk0 : k = 0
            · have hk1 : decide ((0 : Int) < (k : Int)) = false := by simp [hk0]
              have hk3 : decide (0 < k) = false := by simp [hk0]
              have hk2 : ¬ (0 : Int) < (k : Int) := by omega
              have hG := hide (show errAt rows.length set k = 0 by rw [HER.out, if_neg hnz, if_neg (by omega)])
              clear hcp HBAD HER hk0 hnz hz1 hz2
              go_wp2_with fail
              go_quiet (fail)
              go_wp2_with fail
              go_quiet (fail)
              go_wp2
              go_roundg (set.length - (k + 1))
              case measure => omega
              case rel => exact ⟨k + 1, rfl, by go_num, hks, by rw [HNK.out], hide (fun j hj => by
                by_cases e : j < k
                · exact hok.out j e
                · obtain rfl : j = k := by omega
                  exact hG.out), _, rfl⟩
            · have hk1 : decide ((0 : Int) < (k : Int)) = true := by simp; omega
              have hk3 : decide (0 < k) = true := by simp; omega
              have hk2 : (0 : Int) < (k : Int) := by omega
              have hp0 := hcp.out (by omega)
              obtain ⟨j, hj⟩ : ∃ j, j = k - 1 := ⟨_, rfl⟩
              have hiw : IntKind.i64.wrap ((k : Int) - 1) = (j : Int) := by rw [IntWalk.i64_in _ (by omega)]; omega
              have hi2 : (0 : Int) ≤ (j : Int) := by omega
              have hi3 : (j : Int) < (set.length : Int) := by omega
              rw [← hj] at hp0
              by_cases hpz : (x : Int) ≤ p
              · have hR1 := hide (show E = 10 by rw [HE.out, HBAD.out (by rw [HER.out, if_neg hnz, if_pos ⟨by omega, hpz⟩]; decide), HER.out, if_neg hnz, if_pos ⟨by omega, hpz⟩])
                have hR2 := hide (HO0.out (by rw [hR1.out]; decide))
                have e4 : decide ((x : Int) ≤ p) = true := decide_eq_true hpz
                clear hcp HBAD HER hk0 hnz hj hz1 hz2
                go_wp2_with fail
                go_quiet (fail)
                go_wp2_with fail
                go_quiet (fail)
                go_wp2
                go_ret2
                exact ⟨_, by rw [hR1.out]; rfl, by rw [hR2.out]; exact Ints.nil_ _ _, hBB ▸ hB0.trans (belowN (belowN (belowN (HB2.out.mono (by omega)) _) _) _)⟩
              · have hG := hide (show errAt rows.length set k = 0 by rw [HER.out, if_neg hnz, if_neg (by omega)])
                have e4 : decide ((x : Int) ≤ p) = false := decide_eq_false hpz
                clear hcp HBAD HER hk0 hnz hj hz1 hz2
                go_wp2_with fail
                go_quiet (fail)
                go_wp2_with fail
                go_quiet (fail)
                go_wp2
                go_roundg (set.length - (k + 1))
                case measure => omega
                case rel => exact ⟨k + 1, rfl, by go_num, hks, by rw [HNK.out], hide (fun j hj => by
                  by_cases e : j < k
                  · exact hok.out j e
                  · obtain rfl : j = k := by omega
                    exact hG.out), _, rfl⟩
      · obtain rfl : k = set.length := by omega
        have hR1 := hide (show E = 0 by rw [HE.out]; exact scnK_0 _ hok.out)
        have hNl := numK_lt set.length hok.out
        have HLD := hide (HA.out.led_lt hNl HW.out)
        have HO2 := hide (HO1.out hR1.out)
        have HLE := hide (fun W (h : RowD W A rows) (hT : TabZ W) => zalong_any rows l _ s A cc W HA.out hNl HW.out hsb h hT)
        obtain ⟨S, hS⟩ : ∃ S, led rows (numK set set.length) s.data.toList = S := ⟨_, rfl⟩
        rw [hS] at HO2 HLE HLD
        have hS64 : S < 64 := Nat.lt_of_lt_of_le HLD.out HA.out.pow
        have HE6 := hide (show stsK S 6 = stsK S rows.length from stsK_skip 6 _ HA.out.n6 fun j hj hkj => Nat.testBit_lt_two_pow (Nat.lt_of_lt_of_le HLD.out (Nat.pow_le_pow_right (by decide) hkj)))
        clear hS hNl hok
        have hBq : Below (B + 1) W1 (w2.drewN q) := belowN HB2.out q
        generalize w2.drewN q = w3 at hBq ⊢
        have hbx3 : BoxA w3 B l A rows.length cc := (hBq.block B (Nat.lt_succ_self B)).trans hbx
        have n0 := hbx3.c0
        have n1 := hbx3.c1
        clear hbx3 m0 m1 HBX
        go_wp2_with (go_at_call 51; refine (HLE.out _ (HR.out.below (hBq.mono (Nat.le_of_eq hsz))) (HT.out.below (hBq.mono (Nat.le_of_eq hsz)))).mono ?_; rintro e w4 ⟨rfl, hB3⟩)
        have hs3 := hBq.size
        have hB3' : Below (B + 1) W1 w4 := hBq.trans (hB3.mono (by omega))
        have hs4 := hB3'.size
        have hB5 : Below (B + 1) W1 (w4.alloc (Obj.cells #[] 3)) := hB3'.alloc (by omega) _
        have hI5 : Ints (w4.alloc (Obj.cells #[] 3)) (B + 1) (.slice (some ⟨w4.heap.size, 0, none⟩) 0 0) [] := Ints.empty_ rfl (by omega)
        clear hB3 hBq n0 n1
        go_loopg [11, 12] rows.length (fun gk ov sv wr => ∃ k : Nat, gk = rows.length - k ∧ sv = .int .i64 k ∧ k ≤ rows.length ∧ Ints wr (B + 1) ov (ints (stsK S k)) ∧ Below (B + 1) W1 wr)
        case atStart => exact ⟨0, rfl, rfl, Nat.zero_le _, hI5, hB5⟩
        case round =>
          obtain ⟨k, hgk, rfl, hk, hI, hB⟩ := hrel
          clear hB5 hI5 hB3'
          have hs3 := hB.size
          have hbx7 : BoxA wr B l A rows.length cc := (hB.block B (Nat.lt_succ_self B)).trans hbx
          have m1 := hbx7.c1
          by_cases hkn : k < rows.length
          · have HH := hide (zhas_any S k wr hS64 (by omega))
            cases hbt : S.testBit k with
            | true =>
              rw [hbt] at HH
              have HK := hide (stsK_yes hbt)
              have hsl := stsK_len S k
              have hil := ints_len (stsK S k)
              have HIL := hide (show (ints (stsK S k)).length ≤ 6 by omega)
              have hI0 := hide hI
              clear hbt hsl hil hbx7
              go_wp2_with (first
                | (go_at_call 52; refine HH.out.mono ?_; rintro e w5 ⟨rfl, rfl⟩)
                | (at_builtin; refine wpList_app_ints rfl (.tmp 80) (.tmp 82) rfl (B + 1) _ _ rfl (hI.alloc _) _ 1 [(k : Int)] rfl rfl (heap_alloc_new _ _) (by have := HIL.out; omega) (by simp; omega) ?_; intro v5 w5 hI5 hg5))
              go_roundg (rows.length - (k + 1))
              case measure => omega
              case rel => exact ⟨k + 1, rfl, by go_num, hkn, by rw [HK.out, ints_append]; exact hI5, (hB.alloc (by omega) _).grown hg5 (by simp; omega) (fun j e => (World.ownsRow.lt hI0.out j e).1)⟩
            | false =>
              rw [hbt] at HH
              have HK := hide (show stsK S (k + 1) = stsK S k from stsK_skip (k + 1) k (by omega) fun j hj hkj => by rw [show j = k by omega]; exact hbt)
              clear hbt hbx7
              go_wp2_with (go_at_call 52; refine HH.out.mono ?_; rintro e w5 ⟨rfl, rfl⟩)
              go_roundg (rows.length - (k + 1))
              case measure => omega
              case rel => exact ⟨k + 1, rfl, by go_num, hkn, by rw [HK.out]; exact hI, hB⟩
          · obtain rfl : k = rows.length := by omega
            clear hbx7
            go_wp2
            go_ret2
            exact ⟨_, by rw [hR1.out]; rfl, by rw [HO2.out, HE6.out]; exact hI.mono (by omega), hBB ▸ hB0.trans (hB.mono (by omega))⟩
  · have hE := apyE_bad (set := set) h0
    have HO := hide (apyO_no (show apyE L rows set s.data.toList ≠ 0 by rw [hE]; exact h0))
    have HE := hide hE
    unfold ckw at h0 HE
    clear hT hD hE
    by_cases hc : chkA L rows = 0
    · rw [if_pos hc] at h0 HE
      rw [hc] at HC
      have hne : (chk L s.data.toList != 0) = true := by rw [bne_iff_ne]; exact h0
      clear hR
      go_enter Tryd.func28, Tryd.ntmps28
      go_wp2_with fail
      generalize w.alloc (Obj.cells #[.int .i64 L, .slice A rows.length cc] 24) = W1 at hB0 HR HT HD hbx k0 k1 hsz ⊢
      have lB : B < W1.heap.size := by omega
      go_wp2_with (first
      | (go_at_call 20; refine (HC.out W1 HR.out).mono ?_; rintro e w2 ⟨rfl, hB2⟩; have m0 := (hB2.cell (p := ⟨B, 0, none⟩) lB).trans k0)
      | (go_at_call 21; refine (HK.out _).mono ?_; rintro e w3 ⟨rfl, rfl⟩))
      go_ret2
      exact ⟨_, by rw [HE.out]; rfl, by rw [HO.out]; exact Ints.nil_ _ _, hBB ▸ hB0.trans (hB2.mono (by omega))⟩
    · rw [if_neg hc] at HE
      have hne : (chkA L rows != 0) = true := by rw [bne_iff_ne]; exact hc
      clear hR
      go_enter Tryd.func28, Tryd.ntmps28
      go_wp2_with fail
      generalize w.alloc (Obj.cells #[.int .i64 L, .slice A rows.length cc] 24) = W1 at hB0 HR HT HD hbx k0 k1 hsz ⊢
      go_wp2_with (go_at_call 20; refine (HC.out W1 HR.out).mono ?_; rintro e w2 ⟨rfl, hB2⟩)
      go_ret2
      exact ⟨_, by rw [HE.out]; rfl, by rw [HO.out]; exact Ints.nil_ _ _, hBB ▸ hB0.trans (hB2.mono (by omega))⟩
end Go.Proofs.YtmokccidpnpimaaDoor
