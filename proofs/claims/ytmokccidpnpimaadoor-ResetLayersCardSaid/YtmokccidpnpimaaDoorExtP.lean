/- Plain: a word that contains a reset word is one; applying parts one after the other. -/
import Derived.Test.YtmokccidpnpimaaDoorGreP
set_option linter.unusedVariables false
namespace Go.Proofs.YtmokccidpnpimaaDoor
theorem led_const {rows : List (List Int)} {L S a : Nat} (hA : Aut rows L) (hS : S < 2 ^ rows.length) (h0 : 0 < S) {l : List UInt8} (hl : OkW L l) (h : ∀ s, s < rows.length → dl rows s l = a) : led rows S l = 2 ^ a := by
  apply Nat.eq_of_testBit_eq
  intro j
  rw [Bool.eq_iff_iff, led_bit hA hS hl, Nat.testBit_two_pow, decide_eq_true_iff]
  constructor
  · rintro ⟨s, h1, _, h3⟩
    rw [← h3, h s h1]
  · intro e
    have hb := pos_bit S (Nat.lt_of_lt_of_le hS hA.pow) h0
    exact ⟨tz S, bit_lt hS hb, hb, by rw [h _ (bit_lt hS hb), e]⟩
theorem reset_same {rows : List (List Int)} {L : Nat} (hA : Aut rows L) {l : List UInt8} (hl : OkW L l) (h : sglB (led rows (fullS rows) l) = true) : ∀ s, s < rows.length → dl rows s l = dl rows 0 l := fun s hs =>
  sgl_same (Nat.lt_of_lt_of_le (hA.led_lt (full_lt2 rows) hl) hA.pow) h ((led_bit hA (full_lt2 rows) hl).2 ⟨s, hs, full_bit hs, rfl⟩) ((led_bit hA (full_lt2 rows) hl).2 ⟨0, hA.n1, full_bit hA.n1, rfl⟩)
/-- a reset word stays one with anything ahead and behind -/
theorem reset_mid {rows : List (List Int)} {L : Nat} (hA : Aut rows L) {u w v : List UInt8} (hu : OkW L u) (hw : OkW L w) (hv : OkW L v) (h : sglB (led rows (fullS rows) w) = true) : sglB (led rows (fullS rows) (u ++ w ++ v)) = true := by
  have h1 := hA.led_lt (full_lt2 rows) hu
  have h2 := led_pos hA (full_lt2 rows) (full_pos hA) hu
  rw [led_append, led_append, led_const hA h1 h2 hw (reset_same hA hw h)]
  have h3 := dl_lt hA hA.n1 hw
  exact led_sgl hA (Nat.pow_lt_pow_right (by decide) h3) (pow_sgl _ (Nat.lt_of_lt_of_le h3 hA.n6)) hv
theorem sts_scn : ∀ n, n < 7 → ∀ S, S < 2 ^ n → scn n (ints (stsK S 6)) = 0 ∧ numK (ints (stsK S 6)) (ints (stsK S 6)).length = S := by decide +kernel
theorem numK_bit {set : List Int} {j : Nat} : ∀ k, (numK set k).testBit j = true → ∃ i, i < k ∧ (set.getD i 0).toNat = j
  | 0, h => by rw [show numK set 0 = 0 from rfl, Nat.zero_testBit] at h; cases h
  | k + 1, h => by
    rw [show numK set (k + 1) = numK set k ||| 2 ^ (set.getD k 0).toNat from rfl, Nat.testBit_or, Bool.or_eq_true, Nat.testBit_two_pow, decide_eq_true_iff] at h
    rcases h with h | h
    · obtain ⟨i, h1, h2⟩ := numK_bit k h
      exact ⟨i, by omega, h2⟩
    · exact ⟨k, by omega, h⟩
theorem crd_num (set : List Int) (k : Nat) : crd (numK set k) ≤ k := by
  have h1 := sub_len (stsK (numK set k) 6) ((List.range k).map fun i => (set.getD i 0).toNat) (stsK_nodup _ _) fun x hx => by
    obtain ⟨i, i1, i2⟩ := numK_bit k (stsK_mem.1 hx).2
    exact List.mem_map.2 ⟨i, List.mem_range.2 i1, i2⟩
  rwa [List.length_map, List.length_range] at h1
theorem scnK_none {n : Nat} {set : List Int} : ∀ k, scnK n set k = 0 → ∀ j, j < k → errAt n set j = 0
  | 0, _, j, hj => absurd hj (by omega)
  | k + 1, h, j, hj => by
    rw [show scnK n set (k + 1) = if scnK n set k ≠ 0 then scnK n set k else errAt n set k from rfl] at h
    by_cases e : scnK n set k = 0
    · rw [if_neg (by simp [e])] at h
      by_cases e2 : j < k
      · exact scnK_none k e j e2
      · obtain rfl : j = k := by omega
        exact h
    · rw [if_pos e] at h; exact absurd h e
theorem num_lt {n : Nat} {set : List Int} (h : scn n set = 0) : numK set set.length < 2 ^ n := numK_lt _ (scnK_none _ h)
theorem ckw_good {L : Nat} {rows : List (List Int)} {l : List UInt8} (hA : Aut rows L) (h0 : chkA L rows = 0) (hl : l.length ≤ 65536) (h : OkW L l) : ckw L rows l = 0 := by
  unfold ckw; rw [if_pos h0]; exact chk_ok hA.l1 hA.L16 hl h
/-- Apply of two parts, and of the whole -/
theorem apy_parts {rows : List (List Int)} {L : Nat} (hA : Aut rows L) (h0 : chkA L rows = 0) {set : List Int} {u v : List UInt8} (hu : OkW L u) (hv : OkW L v) (hul : u.length ≤ 12) (hvl : v.length ≤ 12) :
    apyE L rows set (u ++ v) = scn rows.length set ∧ apyE L rows set u = scn rows.length set ∧ (scn rows.length set ≠ 0 → apyO L rows set (u ++ v) = []) ∧
    (scn rows.length set = 0 → apyE L rows (apyO L rows set u) v = 0 ∧ apyO L rows (apyO L rows set u) v = apyO L rows set (u ++ v) ∧ (apyO L rows set (u ++ v)).length ≤ (apyO L rows set u).length ∧ (apyO L rows set u).length ≤ set.length ∧ (apyO L rows set u).length ≤ 6) := by
  have c1 : ckw L rows (u ++ v) = 0 := ckw_good hA h0 (by rw [List.length_append]; omega) (hu.append hv)
  have c2 : ckw L rows u = 0 := ckw_good hA h0 (by omega) hu
  have c3 : ckw L rows v = 0 := ckw_good hA h0 (by omega) hv
  have e1 := apyE_good (set := set) c1
  have e2 := apyE_good (set := set) c2
  refine ⟨e1, e2, fun h => apyO_no (by rw [e1]; exact h), fun h => ?_⟩
  have hN := num_lt h
  have o1 := apyO_ok (e1.trans h)
  have o2 := apyO_ok (e2.trans h)
  have hT := hA.led_lt hN hu
  obtain ⟨s1, s2⟩ := sts_scn rows.length (by have := hA.n6; omega) _ hT
  have e3 := apyE_good (set := apyO L rows set u) c3
  rw [o2, s1] at e3
  have o3 := apyO_ok e3
  rw [s2, ← led_append] at o3
  refine ⟨by rw [o2]; exact e3, by rw [o2, o1]; exact o3, ?_, ?_, ?_⟩
  · rw [o1, o2, ints_len, ints_len, led_append]; exact crd_le hA hT hv
  · rw [o2, ints_len]; exact Nat.le_trans (crd_le hA hN hu) (crd_num set set.length)
  · rw [o2, ints_len]; exact stsK_len _ _
end Go.Proofs.YtmokccidpnpimaaDoor
