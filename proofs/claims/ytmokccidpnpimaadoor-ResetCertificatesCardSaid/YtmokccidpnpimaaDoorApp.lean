/- reset.Apply: its contract. -/
import Derived.Test.YtmokccidpnpimaaDoorAw44
set_option linter.unusedVariables false
namespace Go.Proofs.YtmokccidpnpimaaDoor
open Go.RowKit Go.Maps
/-! ### plain -/
/-- what is wrong with a state of a set -/
def errAt (n : Nat) (set : List Int) (i : Nat) : Int := if set.getD i 0 < 0 ∨ (n : Int) ≤ set.getD i 0 then 25 else if 0 < i ∧ set.getD i 0 ≤ set.getD (i - 1) 0 then 10 else 0
def scnK (n : Nat) (set : List Int) : Nat → Int
  | 0 => 0
  | k + 1 => if scnK n set k ≠ 0 then scnK n set k else errAt n set k
def scn (n : Nat) (set : List Int) : Int := scnK n set set.length
theorem scnK_0 {n : Nat} {set : List Int} : ∀ k, (∀ j, j < k → errAt n set j = 0) → scnK n set k = 0
  | 0, _ => rfl
  | k + 1, h => by
    rw [show scnK n set (k + 1) = if scnK n set k ≠ 0 then scnK n set k else errAt n set k from rfl, scnK_0 k fun j hj => h j (by omega), if_neg (by simp)]
    exact h k (by omega)
theorem scnK_at {n : Nat} {set : List Int} {i : Nat} (h : ∀ j, j < i → errAt n set j = 0) (he : errAt n set i ≠ 0) : ∀ k, i < k → scnK n set k = errAt n set i
  | 0, hk => absurd hk (by omega)
  | k + 1, hk => by
    rw [show scnK n set (k + 1) = if scnK n set k ≠ 0 then scnK n set k else errAt n set k from rfl]
    by_cases hik : i < k
    · rw [scnK_at h he k hik, if_pos he]
    · obtain rfl : i = k := by omega
      rw [scnK_0 i h, if_neg (by simp)]
theorem errAt_0 {n : Nat} {set : List Int} {i : Nat} : errAt n set i = 0 ↔ 0 ≤ set.getD i 0 ∧ set.getD i 0 < n ∧ (0 < i → set.getD (i - 1) 0 < set.getD i 0) := by
  unfold errAt
  by_cases h1 : set.getD i 0 < 0 ∨ (n : Int) ≤ set.getD i 0
  · rw [if_pos h1]
    exact ⟨fun h => (by cases h), fun h => by omega⟩
  · rw [if_neg h1]
    by_cases h2 : 0 < i ∧ set.getD i 0 ≤ set.getD (i - 1) 0
    · rw [if_pos h2]
      exact ⟨fun h => (by cases h), fun h => by have := h.2.2 h2.1; omega⟩
    · rw [if_neg h2]
      exact ⟨fun _ => ⟨by omega, by omega, fun h => by omega⟩, fun _ => rfl⟩
/-- the number of the first k states of a set -/
def numK (set : List Int) : Nat → Nat
  | 0 => 0
  | k + 1 => numK set k ||| 2 ^ (set.getD k 0).toNat
theorem numK_lt {n : Nat} {set : List Int} : ∀ k, (∀ j, j < k → errAt n set j = 0) → numK set k < 2 ^ n
  | 0, _ => Nat.pow_pos (by decide)
  | k + 1, h => by
    have h1 := numK_lt k fun j hj => h j (by omega)
    have h2 := errAt_0.1 (h k (by omega))
    exact Nat.or_lt_two_pow h1 (Nat.pow_lt_pow_right (by decide) (by omega))
/-- the states of a set that are below k -/
def stsK (S k : Nat) : List Nat := (List.range k).filter fun j => S.testBit j
theorem stsK_skip {S : Nat} : ∀ (t k : Nat), k ≤ t → (∀ j, j < t → k ≤ j → S.testBit j = false) → stsK S t = stsK S k
  | 0, k, h, _ => by obtain rfl : k = 0 := by omega
                     rfl
  | t + 1, k, h, hn => by
    rcases Nat.lt_or_ge t k with h1 | h1
    · obtain rfl : k = t + 1 := by omega
      rfl
    · rw [← stsK_skip t k h1 fun j hj hk => hn j (by omega) hk]
      unfold stsK
      rw [List.range_succ, List.filter_append]
      simp [hn t (by omega) h1]
theorem stsK_yes {S k : Nat} (h : S.testBit k = true) : stsK S (k + 1) = stsK S k ++ [k] := by
  unfold stsK
  rw [List.range_succ, List.filter_append]
  simp [h]
theorem stsK_len (S k : Nat) : (stsK S k).length ≤ k := by
  unfold stsK
  have := List.length_filter_le (fun j => S.testBit j) (List.range k)
  rwa [List.length_range] at this
/-- where a word leads from a set, as rows -/
def apyE (L : Int) (rows : List (List Int)) (set : List Int) (l : List UInt8) : Int := if ckw L rows l ≠ 0 then ckw L rows l else scn rows.length set
def apyO (L : Int) (rows : List (List Int)) (set : List Int) (l : List UInt8) : List Int := if apyE L rows set l = 0 then ints (stsK (led rows (numK set set.length) l) 6) else []
theorem apyE_bad {L : Int} {rows : List (List Int)} {set : List Int} {l : List UInt8} (h : ckw L rows l ≠ 0) : apyE L rows set l = ckw L rows l := by unfold apyE; rw [if_pos h]
theorem apyE_good {L : Int} {rows : List (List Int)} {set : List Int} {l : List UInt8} (h : ckw L rows l = 0) : apyE L rows set l = scn rows.length set := by unfold apyE; rw [if_neg (by simp [h])]
theorem apyO_no {L : Int} {rows : List (List Int)} {set : List Int} {l : List UInt8} (h : apyE L rows set l ≠ 0) : apyO L rows set l = [] := by unfold apyO; rw [if_neg h]
theorem apyO_ok {L : Int} {rows : List (List Int)} {set : List Int} {l : List UInt8} (h : apyE L rows set l = 0) : apyO L rows set l = ints (stsK (led rows (numK set set.length) l) 6) := by unfold apyO; rw [if_pos h]
theorem orS : ∀ a, a < 64 → ∀ k, k < 6 → bits .or .i64 ((a : Nat) : Int) (wrap64 (2 ^ k)) = ((a ||| 2 ^ k : Nat) : Int) := by decide +kernel
set_option maxRecDepth 100000 in
set_option maxHeartbeats 4000000 in
theorem zApply_any (L : Int) (rows : List (List Int)) (set : List Int) (s : ByteArray) (A : Option Addr) (cc : Nat) (D : Option Addr) (dc : Nat) (w : World) (hg : grt L rows.length = false) (hR : RowD w A rows) (hT : TabZ w) (hD : RowI w D set) (hb : rows.length ≤ 9223372036854775807) (hsb : s.size ≤ 9223372036854775807) (hdb : set.length ≤ 9223372036854775807) :
    Calls Tryd.prog 27 #[.agg #[.int .i64 L, .slice A rows.length cc], .slice D set.length dc, .string s] w fun e w' => ∃ v, e = .returned (.tuple #[v, .int .i64 (apyE L rows set s.data.toList)]) ∧ Ints w' w.heap.size v (apyO L rows set s.data.toList) ∧ Below w.heap.size w w' := by
  have hB0 : Below w.heap.size w (w.alloc (Obj.cells #[.int .i64 L, .slice A rows.length cc] 24)) := (Below.refl _ w).alloc (Nat.le_refl _) _
  have HR := hide (hR.below hB0)
  have HT := hide (hT.below hB0)
  have HD := hide (hD.below hB0)
  obtain ⟨B, hBB⟩ : ∃ B, w.heap.size = B := ⟨_, rfl⟩
  have hbx : BoxA (w.alloc (Obj.cells #[.int .i64 L, .slice A rows.length cc] 24)) B L A rows.length cc := by rw [← hBB]; exact heap_alloc_new w _
  have k0 := hbx.c0
  have k1 := hbx.c1
  have hsz : (w.alloc (Obj.cells #[.int .i64 L, .slice A rows.length cc] 24)).heap.size = B + 1 := by rw [← hBB]; simp
  have HC := hide (fun W (h : RowD W A rows) => zcheck_any L rows s A cc W h hb)
  by_cases h0 : ckw L rows s.data.toList = 0
  · rw [h0] at HC
    obtain ⟨l, rfl, hA⟩ := aut_of hg (ckw_ok h0).1
    have hW := okw_of (ckw_ok h0).2
    have hn := hA.n6
    have HA := hide hA
    have HW := hide hW
    have HE := hide (apyE_good (set := set) h0)
    have HO1 := hide (apyO_ok (L := (l : Int)) (rows := rows) (set := set) (l := s.data.toList))
    have HO0 := hide (apyO_no (L := (l : Int)) (rows := rows) (set := set) (l := s.data.toList))
    generalize apyO l rows set s.data.toList = O at HO1 HO0 ⊢
    generalize apyE l rows set s.data.toList = E at HE HO1 HO0 ⊢
    clear hR hT hD hg h0 hA hW
    go_enter Tryd.func27, Tryd.ntmps27
    go_wp2_with fail
    generalize w.alloc (Obj.cells #[.int .i64 (l : Int), .slice A rows.length cc] 24) = W1 at hB0 HR HT HD hbx k0 k1 hsz ⊢
    have lB : B < W1.heap.size := by omega
    go_wp2_with (go_at_call 47; refine (HC.out W1 HR.out).mono ?_; rintro e w2 ⟨rfl, hB2⟩)
    replace hB2 : Below (B + 1) W1 w2 := hB2.mono (Nat.le_of_eq hsz.symm)
    have hbx2 : BoxA w2 B l A rows.length cc := (hB2.block B (Nat.lt_succ_self B)).trans hbx
    have m0 := hbx2.c0
    have m1 := hbx2.c1
    have hs2 := hB2.size
    have HB2 := hide hB2
    have HBX := hide hbx2
    clear hB2 hbx2
    go_loopg [9, 22] set.length (fun gk nv iv wr => ∃ k : Nat, gk = set.length - k ∧ iv = .int .i64 k ∧ k ≤ set.length ∧ nv = .int .i64 (numK set k) ∧ Hid (∀ j, j < k → errAt rows.length set j = 0) ∧ wr = w2)
    case atStart => exact ⟨0, rfl, rfl, Nat.zero_le _, rfl, hide (fun j h => absurd h (by omega)), rfl⟩
    case round =>
      obtain ⟨k, hgk, rfl, hk, rfl, hok, rfl⟩ := hrel
      by_cases hks : k < set.length
      · obtain ⟨b, o, rfl, hbl, hcell⟩ := HD.out (by omega)
        have hcz := (HB2.out.cell (p := ⟨b, o + k, none⟩) (show b < B + 1 by omega)).trans (hcell k hks)
        rw [getD_get hks] at hcz
        have hcp : Hid (0 < k → wr.cell? ⟨b, o + (k - 1), none⟩ = some (.int .i64 (set.getD (k - 1) 0))) := hide fun h => by
          have := (HB2.out.cell (p := ⟨b, o + (k - 1), none⟩) (show b < B + 1 by omega)).trans (hcell (k - 1) (by omega))
          rw [getD_get (by omega)] at this
          exact this
        have i0 : (0 : Int) ≤ (k : Int) := by omega
        have i1 : (k : Int) < (set.length : Int) := by omega
        have HBAD := hide (fun h => show scn rows.length set = errAt rows.length set k from scnK_at hok.out h set.length hks)
        have HER := hide (show errAt rows.length set k = if set.getD k 0 < 0 ∨ (rows.length : Int) ≤ set.getD k 0 then 25 else if 0 < k ∧ set.getD k 0 ≤ set.getD (k - 1) 0 then 10 else 0 from rfl)
        have HNK := hide (show numK set (k + 1) = numK set k ||| 2 ^ (set.getD k 0).toNat from rfl)
        have hN64 : numK set k < 64 := Nat.lt_of_lt_of_le (numK_lt k hok.out) HA.out.pow
        obtain ⟨z, hz⟩ : ∃ z, set.getD k 0 = z := ⟨_, rfl⟩
        rw [hz] at hcz HER HNK
        obtain ⟨p, hp⟩ : ∃ p, set.getD (k - 1) 0 = p := ⟨_, rfl⟩
        rw [hp] at hcp HER
        clear hz hp hcell
        by_cases hz1 : z < 0
        · have hR1 := hide (show E = 25 by rw [HE.out, HBAD.out (by rw [HER.out, if_pos (.inl hz1)]; decide), HER.out, if_pos (.inl hz1)])
          have hR2 := hide (HO0.out (by rw [hR1.out]; decide))
          clear hcp HBAD HER
          go_wp2
          go_ret2
          exact ⟨_, by rw [hR1.out]; rfl, by rw [hR2.out]; exact Ints.nil_ _ _, hBB ▸ hB0.trans (HB2.out.mono (by omega))⟩
        · by_cases hz2 : (rows.length : Int) ≤ z
          · have hR1 := hide (show E = 25 by rw [HE.out, HBAD.out (by rw [HER.out, if_pos (.inr hz2)]; decide), HER.out, if_pos (.inr hz2)])
            have hR2 := hide (HO0.out (by rw [hR1.out]; decide))
            clear hcp HBAD HER
            go_wp2
            go_ret2
            exact ⟨_, by rw [hR1.out]; rfl, by rw [hR2.out]; exact Ints.nil_ _ _, hBB ▸ hB0.trans (HB2.out.mono (by omega))⟩
          · have hnz : ¬ (z < 0 ∨ (rows.length : Int) ≤ z) := by omega
            obtain ⟨x, rfl⟩ := Int.eq_ofNat_of_zero_le (show (0 : Int) ≤ z by omega)
            have hx6 : x < 6 := by omega
            have hor := orS _ hN64 x hx6
            rw [Int.toNat_natCast] at HNK
            have h63 : ¬ (63 : Int) < (x : Int) := by omega
            by_cases hk0 : k = 0
            · have hk1 : ¬ (0 : Int) < (k : Int) := by omega
              have hG := hide (show errAt rows.length set k = 0 by rw [HER.out, if_neg hnz, if_neg (by omega)])
              clear hcp HBAD HER hk0 hnz
              go_wp2
              go_roundg (set.length - (k + 1))
              case measure => omega
              case rel => exact ⟨k + 1, rfl, by go_num, hks, by rw [HNK.out], hide (fun j hj => by
                by_cases e : j < k
                · exact hok.out j e
                · obtain rfl : j = k := by omega
                  exact hG.out), rfl⟩
            · have hk1 : (0 : Int) < (k : Int) := by omega
              have hp0 := hcp.out (by omega)
              obtain ⟨j, hj⟩ : ∃ j, j = k - 1 := ⟨_, rfl⟩
              have hiw : IntKind.i64.wrap ((k : Int) - 1) = (j : Int) := by rw [IntWalk.i64_in _ (by omega)]; omega
              have hi2 : (0 : Int) ≤ (j : Int) := by omega
              have hi3 : (j : Int) < (set.length : Int) := by omega
              rw [← hj] at hp0
              by_cases hpz : (x : Int) ≤ p
              · have hR1 := hide (show E = 10 by rw [HE.out, HBAD.out (by rw [HER.out, if_neg hnz, if_pos ⟨by omega, hpz⟩]; decide), HER.out, if_neg hnz, if_pos ⟨by omega, hpz⟩])
                have hR2 := hide (HO0.out (by rw [hR1.out]; decide))
                clear hcp HBAD HER hk0 hnz hj
                go_wp2
                go_ret2
                exact ⟨_, by rw [hR1.out]; rfl, by rw [hR2.out]; exact Ints.nil_ _ _, hBB ▸ hB0.trans (HB2.out.mono (by omega))⟩
              · have hG := hide (show errAt rows.length set k = 0 by rw [HER.out, if_neg hnz, if_neg (by omega)])
                clear hcp HBAD HER hk0 hnz hj
                go_wp2
                go_roundg (set.length - (k + 1))
                case measure => omega
                case rel => exact ⟨k + 1, rfl, by go_num, hks, by rw [HNK.out], hide (fun j hj => by
                  by_cases e : j < k
                  · exact hok.out j e
                  · obtain rfl : j = k := by omega
                    exact hG.out), rfl⟩
      · obtain rfl : k = set.length := by omega
        have hR1 := hide (show E = 0 by rw [HE.out]; exact scnK_0 _ hok.out)
        have hNl := numK_lt set.length hok.out
        have HLD := hide (HA.out.led_lt hNl HW.out)
        have HO2 := hide (HO1.out hR1.out)
        have HLE := hide (fun W (h : RowD W A rows) (hT : TabZ W) => zlead_any rows l _ s A cc W HA.out hNl HW.out hsb h hT)
        obtain ⟨S, hS⟩ : ∃ S, led rows (numK set set.length) s.data.toList = S := ⟨_, rfl⟩
        rw [hS] at HO2 HLE HLD
        have hS64 : S < 64 := Nat.lt_of_lt_of_le HLD.out HA.out.pow
        clear hS hNl hok
        have hu1 : IntKind.u64.wrap (S : Int) = (S : Int) := IntWalk.u64_in _ (by omega)
        go_wp2_with (go_at_call 49; refine (HLE.out _ (HR.out.below (HB2.out.mono (Nat.le_of_eq hsz))) (HT.out.below (HB2.out.mono (Nat.le_of_eq hsz)))).mono ?_; rintro e w3 ⟨rfl, hB3⟩)
        have hB3' : Below (B + 1) W1 w3 := HB2.out.trans (hB3.mono (by omega))
        clear hB3 m0 m1
        go_loopg [12, 13] 7 (fun gk ov lv wr => ∃ k : Nat, gk = 7 - k ∧ k ≤ 6 ∧ lv = .int .u64 (upS S k : Nat) ∧ Ints wr (B + 1) ov (ints (stsK S k)) ∧ Below (B + 1) W1 wr)
        case atStart => exact ⟨0, rfl, by omega, by simp [upS], Ints.nil_ _ _, hB3'⟩
        case round =>
          obtain ⟨k, hgk, hk, rfl, hI, hB⟩ := hrel
          clear hB3'
          have hs3 := hB.size
          obtain ⟨v, hl⟩ : ∃ v, upS S k = v := ⟨_, rfl⟩
          have hl64 : v < 64 := by rw [← hl]; exact low_lt hS64
          by_cases hpos : 0 < v
          · obtain ⟨f1, f2, f4⟩ := low_1 S hS64 k (by omega) (by omega)
            have f3 := low_2 S hS64 k (by omega) (by omega)
            have f5 := low_3 S hS64 k (by omega) (by omega)
            rw [hl] at f1 f2 f3 f4 f5 ⊢
            have HZ := hide (bTZ_any v wr hpos hl64 (HT.out.below (hB.mono (Nat.le_of_eq hsz))))
            obtain ⟨x, hx⟩ : ∃ x, tz v = x := ⟨_, rfl⟩
            rw [hx] at f1 f2 f3 f4 f5 HZ
            have HK := hide (show stsK S (x + 1) = stsK S k ++ [x] by rw [stsK_yes f2, stsK_skip x k f1 f3])
            have hsl := stsK_len S k
            have hil := ints_len (stsK S k)
            have F5 := hide f5
            have HIL := hide (show (ints (stsK S k)).length ≤ 6 by omega)
            have hI0 := hide hI
            clear hx hl f2 f3 f5 hil hsl
            go_wp2_with (first
              | (go_at_call 50; refine HZ.out.mono ?_; rintro e w4 ⟨rfl, rfl⟩)
              | (at_builtin; refine wpList_app_ints rfl (.tmp 63) (.tmp 66) rfl (B + 1) _ _ rfl (hI.alloc _) _ 1 [(x : Int)] rfl rfl (heap_alloc_new _ _) (by have := HIL.out; omega) (by simp; omega) ?_; intro v5 w5 hI5 hg5))
            go_roundg (7 - (x + 1))
            case measure => omega
            case rel =>
              exact ⟨x + 1, rfl, by omega, by rw [F5.out], by rw [HK.out, ints_append]; exact hI5, (hB.alloc (by omega) _).grown hg5 (by simp; omega) (fun j e => (World.ownsRow.lt hI0.out j e).1)⟩
          · have HE6 := hide (show stsK S 6 = stsK S k from stsK_skip 6 k hk fun j hj hkj => low_end S hS64 k (by omega) (by omega) j hj hkj)
            rw [hl]
            clear hl
            go_wp2
            go_ret2
            exact ⟨_, by rw [hR1.out]; rfl, by rw [HO2.out, HE6.out]; exact hI.mono (by omega), hBB ▸ hB0.trans (hB.mono (by omega))⟩
  · have hne : (ckw L rows s.data.toList != 0) = true := by rw [bne_iff_ne]; exact h0
    have hE := apyE_bad (set := set) h0
    have HO := hide (apyO_no (show apyE L rows set s.data.toList ≠ 0 by rw [hE]; exact h0))
    have HE := hide hE
    clear hR hT hD hg h0 hE
    go_enter Tryd.func27, Tryd.ntmps27
    go_wp2_with fail
    generalize w.alloc (Obj.cells #[.int .i64 L, .slice A rows.length cc] 24) = W1 at hB0 HR HT HD hbx k0 k1 hsz ⊢
    go_wp2_with (go_at_call 47; refine (HC.out W1 HR.out).mono ?_; rintro e w2 ⟨rfl, hB2⟩)
    go_ret2
    exact ⟨_, by rw [HE.out]; rfl, by rw [HO.out]; exact Ints.nil_ _ _, hBB ▸ hB0.trans (hB2.mono (by omega))⟩
end Go.Proofs.YtmokccidpnpimaaDoor
