/- Plain: where states are led by a word; how many states a set has; the greedy word. -/
import Derived.Test.YtmokccidpnpimaaDoorApp
import Derived.Test.YtmokccidpnpimaaDoorPai
set_option linter.unusedVariables false
namespace Go.Proofs.YtmokccidpnpimaaDoor
open Go.RowKit
/-! ### where states are led -/
theorem imgK_bit {rows : List (List Int)} {S c t : Nat} : ∀ k, (imgK rows S c k).testBit t = true ↔ ∃ s, s < k ∧ S.testBit s = true ∧ nx rows s c = t
  | 0 => by simp [imgK]
  | k + 1 => by
    cases h : S.testBit k with
    | false =>
      rw [imgK_no h, imgK_bit k]
      constructor
      · rintro ⟨s, h1, h2⟩; exact ⟨s, by omega, h2⟩
      · rintro ⟨s, h1, h2, h3⟩
        refine ⟨s, ?_, h2, h3⟩
        rcases Nat.lt_or_ge s k with e | e
        · exact e
        · obtain rfl : s = k := by omega
          rw [h] at h2; cases h2
    | true =>
      rw [imgK_yes h, Nat.testBit_or, Bool.or_eq_true, imgK_bit k, Nat.testBit_two_pow, decide_eq_true_iff]
      constructor
      · rintro (⟨s, h1, h2⟩ | h2)
        · exact ⟨s, by omega, h2⟩
        · exact ⟨k, by omega, h, h2⟩
      · rintro ⟨s, h1, h2, h3⟩
        rcases Nat.lt_or_ge s k with e | e
        · exact .inl ⟨s, e, h2, h3⟩
        · obtain rfl : s = k := by omega
          exact .inr h3
theorem bit_lt {n S t : Nat} (hS : S < 2 ^ n) (h : S.testBit t = true) : t < n := by
  rcases Nat.lt_or_ge t n with e | e
  · exact e
  · rw [Nat.testBit_lt_two_pow (Nat.lt_of_lt_of_le hS (Nat.pow_le_pow_right (by decide) e))] at h; cases h
/-- where a word leads from a state -/
def dl (rows : List (List Int)) (s : Nat) (l : List UInt8) : Nat := l.foldl (fun s b => nx rows s (dig b).toNat) s
theorem dl_append (rows : List (List Int)) (s : Nat) (l m : List UInt8) : dl rows s (l ++ m) = dl rows (dl rows s l) m := by unfold dl; rw [List.foldl_append]
theorem OkW.tail {L : Nat} {b : UInt8} {l : List UInt8} (h : OkW L (b :: l)) : OkW L l := fun x hx => h x (List.mem_cons_of_mem _ hx)
theorem OkW.head {L : Nat} {b : UInt8} {l : List UInt8} (h : OkW L (b :: l)) : (dig b).toNat < L := by have := h b (List.mem_cons_self ..); omega
theorem OkW.append {L : Nat} {l m : List UInt8} (h : OkW L l) (k : OkW L m) : OkW L (l ++ m) := fun x hx => by
  rcases List.mem_append.1 hx with e | e
  · exact h x e
  · exact k x e
theorem OkW.left {L : Nat} {l m : List UInt8} (h : OkW L (l ++ m)) : OkW L l := fun x hx => h x (List.mem_append_left _ hx)
theorem OkW.right {L : Nat} {l m : List UInt8} (h : OkW L (l ++ m)) : OkW L m := fun x hx => h x (List.mem_append_right _ hx)
theorem dl_lt {rows : List (List Int)} {L : Nat} (hA : Aut rows L) {l : List UInt8} : ∀ {s : Nat}, s < rows.length → OkW L l → dl rows s l < rows.length := by
  induction l with
  | nil => exact fun h _ => h
  | cons b l ih => exact fun h k => ih (hA.nx_lt h k.head) k.tail
theorem led_bit {rows : List (List Int)} {L : Nat} (hA : Aut rows L) {l : List UInt8} : ∀ {S t : Nat}, S < 2 ^ rows.length → OkW L l → ((led rows S l).testBit t = true ↔ ∃ s, s < rows.length ∧ S.testBit s = true ∧ dl rows s l = t) := by
  induction l with
  | nil =>
    intro S t hS _
    constructor
    · intro h; exact ⟨t, bit_lt hS h, h, rfl⟩
    · rintro ⟨s, _, h, rfl⟩; exact h
  | cons b l ih =>
    intro S t hS hl
    rw [show led rows S (b :: l) = led rows (img rows S (dig b).toNat) l from rfl, ih (hA.img_lt hl.head S) hl.tail]
    constructor
    · rintro ⟨s, h1, h2, h3⟩
      obtain ⟨r, r1, r2, r3⟩ := (imgK_bit rows.length).1 h2
      exact ⟨r, r1, r2, by rw [← h3, ← r3]; rfl⟩
    · rintro ⟨s, h1, h2, h3⟩
      exact ⟨nx rows s (dig b).toNat, hA.nx_lt h1 hl.head, (imgK_bit rows.length).2 ⟨s, h1, h2, rfl⟩, h3⟩
/-! ### how many states a set has -/
theorem stsK_mem {S k j : Nat} : j ∈ stsK S k ↔ j < k ∧ S.testBit j = true := by unfold stsK; rw [List.mem_filter, List.mem_range]
theorem stsK_nodup (S k : Nat) : (stsK S k).Nodup := List.nodup_range.filter _
theorem sub_len : ∀ (l m : List Nat), l.Nodup → (∀ x ∈ l, x ∈ m) → l.length ≤ m.length
  | [], m, _, _ => Nat.zero_le _
  | x :: l, m, hn, h => by
    have hx := h x (List.mem_cons_self ..)
    rw [List.nodup_cons] at hn
    have h1 := sub_len l (m.erase x) hn.2 fun y hy => (List.mem_erase_of_ne (by rintro rfl; exact hn.1 hy)).2 (h y (List.mem_cons_of_mem _ hy))
    rw [List.length_erase_of_mem hx] at h1
    have := List.length_pos_of_mem hx
    rw [List.length_cons]
    omega
def crd (S : Nat) : Nat := (stsK S 6).length
theorem Aut.bit6 {rows : List (List Int)} {L S j : Nat} (hA : Aut rows L) (hS : S < 2 ^ rows.length) (h : S.testBit j = true) : j ∈ stsK S 6 := stsK_mem.2 ⟨Nat.lt_of_lt_of_le (bit_lt hS h) hA.n6, h⟩
theorem crd_le {rows : List (List Int)} {L : Nat} (hA : Aut rows L) {l : List UInt8} {S : Nat} (hS : S < 2 ^ rows.length) (hl : OkW L l) : crd (led rows S l) ≤ crd S := by
  have h1 := sub_len (stsK (led rows S l) 6) ((stsK S 6).map fun s => dl rows s l) (stsK_nodup _ _) fun x hx => by
    obtain ⟨s, s1, s2, s3⟩ := (led_bit hA hS hl).1 (stsK_mem.1 hx).2
    exact List.mem_map.2 ⟨s, hA.bit6 hS s2, s3⟩
  rwa [List.length_map] at h1
theorem crd_lt {rows : List (List Int)} {L : Nat} (hA : Aut rows L) {l : List UInt8} {S a b : Nat} (hS : S < 2 ^ rows.length) (hl : OkW L l) (ha : S.testBit a = true) (hb : S.testBit b = true) (hab : a ≠ b) (h : dl rows a l = dl rows b l) : crd (led rows S l) < crd S := by
  have h1 := sub_len (stsK (led rows S l) 6) (((stsK S 6).erase a).map fun s => dl rows s l) (stsK_nodup _ _) fun x hx => by
    obtain ⟨s, s1, s2, s3⟩ := (led_bit hA hS hl).1 (stsK_mem.1 hx).2
    by_cases e : s = a
    · exact List.mem_map.2 ⟨b, (List.mem_erase_of_ne (fun e => hab e.symm)).2 (hA.bit6 hS hb), by rw [← s3, e, h]⟩
    · exact List.mem_map.2 ⟨s, (List.mem_erase_of_ne e).2 (hA.bit6 hS s2), s3⟩
  have h2 := hA.bit6 hS ha
  rw [List.length_map, List.length_erase_of_mem h2] at h1
  have := List.length_pos_of_mem h2
  unfold crd
  omega
theorem sgl_pow : ∀ S, S < 64 → sglB S = true → ∃ a, a < 6 ∧ S = 2 ^ a := by decide +kernel
theorem pow_sgl : ∀ a, a < 6 → sglB (2 ^ a) = true := by decide +kernel
theorem sgl_same {S a b : Nat} (hS : S < 64) (h : sglB S = true) (ha : S.testBit a = true) (hb : S.testBit b = true) : a = b := by
  obtain ⟨x, _, rfl⟩ := sgl_pow S hS h
  rw [Nat.testBit_two_pow, decide_eq_true_iff] at ha hb
  omega
theorem pos_bit : ∀ S, S < 64 → 0 < S → S.testBit (tz S) = true := by decide +kernel
theorem led_pos {rows : List (List Int)} {L : Nat} (hA : Aut rows L) {l : List UInt8} {S : Nat} (hS : S < 2 ^ rows.length) (h0 : 0 < S) (hl : OkW L l) : 0 < led rows S l := by
  have hb := pos_bit S (Nat.lt_of_lt_of_le hS hA.pow) h0
  have := (led_bit hA hS hl).2 ⟨_, bit_lt hS hb, hb, rfl⟩
  rcases Nat.eq_zero_or_pos (led rows S l) with e | e
  · rw [e, Nat.zero_testBit] at this; cases this
  · exact e
/-! ### the greedy word -/
def fa (S : Nat) : Nat := tz S
def fb (S : Nat) : Nat := tz (S - 2 ^ tz S)
def pr2 (S : Nat) : Nat := 2 ^ fa S ||| 2 ^ fb S
theorem fab : ∀ S, S < 64 → 0 < S → sglB S = false → fa S < fb S ∧ fb S < 6 ∧ S.testBit (fa S) = true ∧ S.testBit (fb S) = true := by decide +kernel
/-- a pair of states that a word leads to one -/
theorem pair_led {rows : List (List Int)} {L : Nat} (hA : Aut rows L) {l : List UInt8} {s t : Nat} (hs : s < rows.length) (ht : t < rows.length) (hl : OkW L l) : sglB (led rows (2 ^ s ||| 2 ^ t) l) = true ↔ dl rows s l = dl rows t l := by
  have hp := pair_lt hs ht
  have h64 := Nat.lt_of_lt_of_le (hA.led_lt hp hl) hA.pow
  have b1 := (led_bit hA hp hl).2 ⟨s, hs, by rw [Nat.testBit_or, Nat.testBit_two_pow_self]; rfl, rfl⟩
  have b2 := (led_bit hA hp hl).2 ⟨t, ht, by rw [Nat.testBit_or, Nat.testBit_two_pow_self]; simp, rfl⟩
  constructor
  · exact fun h => sgl_same h64 h b1 b2
  · intro h
    have hd := dl_lt hA hs hl
    have e : led rows (2 ^ s ||| 2 ^ t) l = 2 ^ dl rows s l := by
      apply Nat.eq_of_testBit_eq
      intro j
      rw [Bool.eq_iff_iff, led_bit hA hp hl, Nat.testBit_two_pow, decide_eq_true_iff]
      constructor
      · rintro ⟨r, r1, r2, r3⟩
        rw [Nat.testBit_or, Bool.or_eq_true, Nat.testBit_two_pow, Nat.testBit_two_pow, decide_eq_true_iff, decide_eq_true_iff] at r2
        rcases r2 with e | e
        · rw [← r3, e]
        · rw [← r3, ← e, h]
      · intro e
        exact ⟨s, hs, by rw [Nat.testBit_or, Nat.testBit_two_pow_self]; rfl, e⟩
    rw [e]
    exact pow_sgl _ (Nat.lt_of_lt_of_le hd hA.n6)
def grd (rows : List (List Int)) (L : Nat) : Nat → Nat → ByteArray → ByteArray × Bool
  | 0, _, _ => (⟨#[]⟩, false)
  | f + 1, S, o => if sglB S then (o, true) else if (first rows L (pr2 S)).2 then grd rows L f (led rows S (first rows L (pr2 S)).1.data.toList) (o ++ (first rows L (pr2 S)).1) else (⟨#[]⟩, false)
def gry (rows : List (List Int)) (L : Nat) : ByteArray × Bool := grd rows L 7 (fullS rows) ⟨#[]⟩
def gryV (L : Int) (rows : List (List Int)) : Value := if chkA L rows = 0 then (if (gry rows L.toNat).2 then .tuple #[.string (gry rows L.toNat).1, .int .i64 0] else .tuple #[.string ⟨#[]⟩, .int .i64 20]) else .tuple #[.string ⟨#[]⟩, .int .i64 1]
theorem gryV_ok {L : Nat} {rows : List (List Int)} {o : ByteArray} (h : chkA L rows = 0) (hr : gry rows L = (o, true)) : gryV L rows = .tuple #[.string o, .int .i64 0] := by unfold gryV; rw [if_pos h, Int.toNat_natCast, hr]; rfl
theorem gryV_no {L : Nat} {rows : List (List Int)} (h : chkA L rows = 0) (hr : (gry rows L).2 = false) : gryV L rows = .tuple #[.string ⟨#[]⟩, .int .i64 20] := by unfold gryV; rw [if_pos h, Int.toNat_natCast, if_neg (by rw [hr]; decide)]
theorem gryV_bad {L : Int} {rows : List (List Int)} (h : chkA L rows ≠ 0) : gryV L rows = .tuple #[.string ⟨#[]⟩, .int .i64 1] := by unfold gryV; rw [if_neg h]
theorem grd_hit {rows : List (List Int)} {L f S : Nat} {o : ByteArray} (h : sglB S = true) : grd rows L (f + 1) S o = (o, true) := by
  rw [show grd rows L (f + 1) S o = if sglB S then (o, true) else if (first rows L (pr2 S)).2 then grd rows L f (led rows S (first rows L (pr2 S)).1.data.toList) (o ++ (first rows L (pr2 S)).1) else (⟨#[]⟩, false) from rfl, if_pos h]
theorem grd_no {rows : List (List Int)} {L f S : Nat} {o v : ByteArray} (h : sglB S = false) (hf : first rows L (pr2 S) = (v, false)) : grd rows L (f + 1) S o = (⟨#[]⟩, false) := by
  rw [show grd rows L (f + 1) S o = if sglB S then (o, true) else if (first rows L (pr2 S)).2 then grd rows L f (led rows S (first rows L (pr2 S)).1.data.toList) (o ++ (first rows L (pr2 S)).1) else (⟨#[]⟩, false) from rfl, if_neg (by rw [h]; decide), hf]; rfl
theorem grd_go {rows : List (List Int)} {L f S : Nat} {o v : ByteArray} (h : sglB S = false) (hf : first rows L (pr2 S) = (v, true)) : grd rows L (f + 1) S o = grd rows L f (led rows S v.data.toList) (o ++ v) := by
  rw [show grd rows L (f + 1) S o = if sglB S then (o, true) else if (first rows L (pr2 S)).2 then grd rows L f (led rows S (first rows L (pr2 S)).1.data.toList) (o ++ (first rows L (pr2 S)).1) else (⟨#[]⟩, false) from rfl, if_neg (by rw [h]; decide), hf]; rfl
theorem crd_1 : ∀ S, S < 64 → 0 < S → 1 ≤ crd S ∧ crd S ≤ 6 := by decide +kernel
theorem grd_step {rows : List (List Int)} {L S : Nat} {v : ByteArray} (hA : Aut rows L) (hS : S < 2 ^ rows.length) (h0 : 0 < S) (h : sglB S = false) (hf : first rows L (pr2 S) = (v, true)) :
    OkW L v.data.toList ∧ v.size ≤ 64 ∧ 0 < led rows S v.data.toList ∧ led rows S v.data.toList < 2 ^ rows.length ∧ crd (led rows S v.data.toList) < crd S := by
  obtain ⟨f1, f2, f3, f4⟩ := fab S (Nat.lt_of_lt_of_le hS hA.pow) h0 h
  have a1 := bit_lt hS f3
  have a2 := bit_lt hS f4
  have hp := pair_lt a1 a2
  have h1 := first_from (rows := rows) (L := L) (S := pr2 S) (by have := hA.l3; omega) (by rw [hf])
  rw [hf] at h1
  have h2 := first_size (rows := rows) (L := L) (S := pr2 S) hA hp
  rw [hf] at h2
  have h3 := (pair_led hA a1 a2 h1.1).1 h1.2
  exact ⟨h1.1, h2, led_pos hA hS h0 h1.1, hA.led_lt hS h1.1, crd_lt hA hS h1.1 f3 f4 (by omega) h3⟩
end Go.Proofs.YtmokccidpnpimaaDoor
