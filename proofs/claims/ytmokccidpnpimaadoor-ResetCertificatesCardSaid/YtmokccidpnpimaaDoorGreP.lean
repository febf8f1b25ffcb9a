/- Plain: a reset word exists exactly if each two states can be brought together; what Greedy finds is one. -/
import Derived.Test.YtmokccidpnpimaaDoorBfsP
set_option linter.unusedVariables false
namespace Go.Proofs.YtmokccidpnpimaaDoor
theorem Aut.L16 {rows : List (List Int)} {L : Nat} (hA : Aut rows L) : L ≤ 16 := by have := hA.l3; omega
theorem full_bit {rows : List (List Int)} {s : Nat} (hs : s < rows.length) : (fullS rows).testBit s = true := by
  unfold fullS
  rw [Nat.testBit_two_pow_sub_one, decide_eq_true hs]
theorem full_pos {rows : List (List Int)} {L : Nat} (hA : Aut rows L) : 0 < fullS rows := by unfold fullS; have := hA.n1; have := Nat.pow_le_pow_right (n := 2) (by decide) this; omega
theorem full_lt2 (rows : List (List Int)) : fullS rows < 2 ^ rows.length := full_lt _
theorem led_sgl {rows : List (List Int)} {L S : Nat} (hA : Aut rows L) (hS : S < 2 ^ rows.length) (h : sglB S = true) {l : List UInt8} (hl : OkW L l) : sglB (led rows S l) = true := by
  obtain ⟨a, ha, rfl⟩ := sgl_pow S (Nat.lt_of_lt_of_le hS hA.pow) h
  have h1 := bit_lt hS (Nat.testBit_two_pow_self (n := a))
  have := (pair_led hA h1 h1 hl).2 rfl
  rwa [Nat.or_self] at this
theorem first_all {rows : List (List Int)} {L : Nat} (hA : Aut rows L) (h : (first rows L (fullS rows)).2 = true) {s t : Nat} (hs : s < rows.length) (ht : t < rows.length) : (first rows L (2 ^ s ||| 2 ^ t)).2 = true := by
  obtain ⟨h1, h2⟩ := first_from hA.L16 h
  have h64 := Nat.lt_of_lt_of_le (hA.led_lt (full_lt2 rows) h1) hA.pow
  have e := sgl_same h64 h2 ((led_bit hA (full_lt2 rows) h1).2 ⟨s, hs, full_bit hs, rfl⟩) ((led_bit hA (full_lt2 rows) h1).2 ⟨t, ht, full_bit ht, rfl⟩)
  exact (first_min hA (pair_lt hs ht) h1 ((pair_led hA hs ht h1).2 e)).1
theorem grd_eq (rows : List (List Int)) (L f S : Nat) (o : ByteArray) : grd rows L (f + 1) S o = if sglB S then (o, true) else if (first rows L (pr2 S)).2 then grd rows L f (led rows S (first rows L (pr2 S)).1.data.toList) (o ++ (first rows L (pr2 S)).1) else (⟨#[]⟩, false) := rfl
theorem grd_all {rows : List (List Int)} {L : Nat} (hA : Aut rows L) (h : ∀ s t, s < rows.length → t < rows.length → (first rows L (2 ^ s ||| 2 ^ t)).2 = true) : ∀ f S o, 0 < S → S < 2 ^ rows.length → crd S ≤ f → (grd rows L f S o).2 = true
  | 0, S, o, h0, hS, hc => by have := (crd_1 S (Nat.lt_of_lt_of_le hS hA.pow) h0).1; omega
  | f + 1, S, o, h0, hS, hc => by
    cases hs : sglB S with
    | true => rw [grd_hit hs]
    | false =>
      obtain ⟨f1, f2, f3, f4⟩ := fab S (Nat.lt_of_lt_of_le hS hA.pow) h0 hs
      have hp := h _ _ (bit_lt hS f3) (bit_lt hS f4)
      obtain ⟨v, u, hvu⟩ : ∃ v u, first rows L (pr2 S) = (v, u) := ⟨_, _, rfl⟩
      rw [show 2 ^ fa S ||| 2 ^ fb S = pr2 S from rfl, hvu] at hp
      obtain rfl : u = true := hp
      rw [grd_go hs hvu]
      obtain ⟨g1, g2, g3, g4, g5⟩ := grd_step hA hS h0 hs hvu
      exact grd_all hA h f _ _ g3 g4 (by omega)
theorem grd_from {rows : List (List Int)} {L : Nat} (hA : Aut rows L) : ∀ f S o, 0 < S → S < 2 ^ rows.length → (grd rows L f S o).2 = true → ∃ u, (grd rows L f S o).1.data.toList = o.data.toList ++ u ∧ OkW L u ∧ sglB (led rows S u) = true ∧ u.length ≤ 64 * f
  | 0, S, o, _, _, h => by cases h
  | f + 1, S, o, h0, hS, h => by
    cases hs : sglB S with
    | true => rw [grd_hit hs]; exact ⟨[], by simp, fun b hb => (by cases hb), hs, by simp⟩
    | false =>
      obtain ⟨v, u, hvu⟩ : ∃ v u, first rows L (pr2 S) = (v, u) := ⟨_, _, rfl⟩
      cases u with
      | false => rw [grd_no hs hvu] at h; cases h
      | true =>
        rw [grd_go hs hvu] at h ⊢
        obtain ⟨g1, g2, g3, g4, g5⟩ := grd_step hA hS h0 hs hvu
        obtain ⟨u, u1, u2, u3, u4⟩ := grd_from hA f _ _ g3 g4 h
        refine ⟨v.data.toList ++ u, ?_, g1.append u2, ?_, ?_⟩
        · rw [u1]; simp only [ByteArray.data_append, Array.toList_append, List.append_assoc]
        · rw [led_append]; exact u3
        · have : v.data.toList.length = v.size := by simp
          rw [List.length_append, this]; omega
/-- Greedy fails exactly if there is no reset word -/
theorem gry_first {rows : List (List Int)} {L : Nat} (hA : Aut rows L) : (gry rows L).2 = (first rows L (fullS rows)).2 := by
  rw [Bool.eq_iff_iff]
  have hc : crd (fullS rows) ≤ 7 := by have := (crd_1 _ (Nat.lt_of_lt_of_le (full_lt2 rows) hA.pow) (full_pos hA)).2; omega
  constructor
  · intro h
    obtain ⟨u, _, u2, u3, _⟩ := grd_from hA 7 _ _ (full_pos hA) (full_lt2 rows) h
    exact (first_min hA (full_lt2 rows) u2 u3).1
  · intro h
    exact grd_all hA (fun s t hs ht => first_all hA h hs ht) 7 _ _ (full_pos hA) (full_lt2 rows) hc
theorem gry_ok {rows : List (List Int)} {L : Nat} (hA : Aut rows L) (h : (gry rows L).2 = true) : OkW L (gry rows L).1.data.toList ∧ sglB (led rows (fullS rows) (gry rows L).1.data.toList) = true ∧ (first rows L (fullS rows)).1.size ≤ (gry rows L).1.size ∧ (gry rows L).1.size ≤ 448 := by
  obtain ⟨u, u1, u2, u3, u4⟩ := grd_from hA 7 _ _ (full_pos hA) (full_lt2 rows) h
  have e : (gry rows L).1.data.toList = u := by
    have := u1
    simp at this
    exact this
  have hk := first_min hA (full_lt2 rows) u2 u3
  have hl := key_len hA.L16 (first_from hA.L16 hk.1).1 u2 hk.2
  have e1 : (first rows L (fullS rows)).1.data.toList.length = (first rows L (fullS rows)).1.size := by simp
  have e2 : (gry rows L).1.data.toList.length = (gry rows L).1.size := by simp
  rw [e] at e2
  exact ⟨by rw [e]; exact u2, by rw [e]; exact u3, by omega, by omega⟩
/-- Pairs answers whether there is a reset word -/
theorem prB_first {rows : List (List Int)} {L : Nat} (hA : Aut rows L) : prB rows L = (first rows L (fullS rows)).2 := by
  have hc : crd (fullS rows) ≤ 7 := by have := (crd_1 _ (Nat.lt_of_lt_of_le (full_lt2 rows) hA.pow) (full_pos hA)).2; omega
  cases h : (first rows L (fullS rows)).2 with
  | true => exact prB_yes fun s hs t ht => first_all hA h hs (by omega)
  | false =>
    rw [← gry_first hA] at h
    cases hp : prB rows L with
    | false => rfl
    | true =>
      have hp' : ∀ s, s < rows.length → ∀ t, t < s → (first rows L (2 ^ s ||| 2 ^ t)).2 = true := of_decide_eq_true hp
      have := grd_all hA (fun s t hs ht => by
        rcases Nat.lt_trichotomy s t with e | e | e
        · rw [Nat.or_comm]; exact hp' t ht s e
        · subst e
          exact (first_min hA (u := []) (pair_lt hs hs) (fun b hb => by cases hb) ((pair_led hA hs hs (fun b hb => by cases hb)).2 rfl)).1
        · exact hp' s hs t e) 7 (fullS rows) ⟨#[]⟩ (full_pos hA) (full_lt2 rows) hc
      rw [show grd rows L 7 (fullS rows) ⟨#[]⟩ = gry rows L from rfl, h] at this
      cases this
theorem chk_ok {L : Nat} {l : List UInt8} (h1 : 1 ≤ L) (h2 : L ≤ 16) (hl : l.length ≤ 65536) (h : OkW L l) : chk L l = 0 := by
  unfold chk
  rw [if_neg (by omega), if_neg (by omega), if_pos]
  rw [List.all_eq_true]
  intro b hb
  exact decide_eq_true (h b hb)
theorem vrf_ok {L : Nat} {rows : List (List Int)} {l : List UInt8} (hA : Aut rows L) (h0 : chkA L rows = 0) (hl : l.length ≤ 65536) (h : OkW L l) (hs : sglB (led rows (fullS rows) l) = true) : vrf L rows l = 0 := by
  have hc : ckw L rows l = 0 := by unfold ckw; rw [if_pos h0]; exact chk_ok hA.l1 hA.L16 hl h
  rw [vrf_good hc, show 2 ^ rows.length - 1 = fullS rows from rfl, if_pos hs]
end Go.Proofs.YtmokccidpnpimaaDoor
