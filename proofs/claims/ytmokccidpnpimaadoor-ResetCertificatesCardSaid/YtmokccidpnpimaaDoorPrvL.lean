/- Plain: accepted layers prove that no shorter word is a reset word; the layers that are made are accepted. -/
import Derived.Test.YtmokccidpnpimaaDoorGreP
import Derived.Test.YtmokccidpnpimaaDoorCkl
set_option linter.unusedVariables false
namespace Go.Proofs.YtmokccidpnpimaaDoor
/-! ### accepted layers -/
theorem natL_mem {a : List Int} {x : Nat} : x ∈ natL a ↔ ∃ i, i < a.length ∧ x = (a.getD i 0).toNat := by
  unfold natL
  rw [List.mem_map]
  constructor
  · rintro ⟨z, hz, rfl⟩
    obtain ⟨i, hi, rfl⟩ := List.getElem_of_mem hz
    exact ⟨i, hi, by rw [getD_get hi]⟩
  · rintro ⟨i, hi, rfl⟩
    exact ⟨a[i], List.getElem_mem hi, by rw [getD_get hi]⟩
theorem snL_mem {ls : List (List Int)} {x : Nat} : ∀ k, x ∈ snL ls k ↔ ∃ j, j < k ∧ j < ls.length ∧ x ∈ natL (ls.getD j [])
  | 0 => by simp [snL]
  | k + 1 => by
    by_cases hk : k < ls.length
    · rw [snL_succ hk, List.mem_append, snL_mem k, getD_get2 hk]
      constructor
      · rintro (⟨j, h1, h2, h3⟩ | h)
        · exact ⟨j, by omega, h2, h3⟩
        · exact ⟨k, by omega, hk, h⟩
      · rintro ⟨j, h1, h2, h3⟩
        by_cases e : j < k
        · exact .inl ⟨j, e, h2, h3⟩
        · obtain rfl : j = k := by omega
          exact .inr h3
    · have e : snL ls (k + 1) = snL ls k := by unfold snL; rw [List.take_of_length_le (by omega), List.take_of_length_le (by omega)]
      rw [e, snL_mem k]
      constructor
      · rintro ⟨j, h1, h2, h3⟩; exact ⟨j, by omega, h2, h3⟩
      · rintro ⟨j, h1, h2, h3⟩; exact ⟨j, by omega, h2, h3⟩
theorem prv_parts {rows : List (List Int)} {L : Nat} {ls : List (List Int)} (h : prv rows L ls = true) :
    (0 < ls.length → ls.getD 0 [] = [((fullS rows : Nat) : Int)]) ∧ (∀ k, k < ls.length → ∀ i, i < (ls.getD k []).length → okAt (fullS rows : Nat) (ls.getD k []) i = true) ∧
    (∀ k, k + 1 < ls.length → ∀ i, i < (ls.getD k []).length → ∀ c, c < L → stOk rows (snL ls (k + 1)) (ls.getD (k + 1) []) ((ls.getD k []).getD i 0).toNat c = true) := by
  unfold prv at h
  rw [Bool.and_eq_true, Bool.or_eq_true, decide_eq_true_iff, decide_eq_true_iff, List.all_eq_true] at h
  obtain ⟨h1, h2⟩ := h
  have hlay : ∀ k, k < ls.length → layOk rows L ls k = true := fun k hk => h2 k (List.mem_range.2 hk)
  refine ⟨fun h0 => ?_, fun k hk i hi => ?_, fun k hk i hi c hc => ?_⟩
  · rcases h1 with h1 | h1
    · omega
    · exact h1
  · have := hlay k hk
    unfold layOk at this
    rw [Bool.and_eq_true] at this
    exact List.all_eq_true.1 this.1 i (List.mem_range.2 hi)
  · have := hlay k (by omega)
    unfold layOk at this
    rw [Bool.and_eq_true, Bool.or_eq_true, decide_eq_true_iff] at this
    rcases this.2 with e | e
    · omega
    · exact List.all_eq_true.1 (List.all_eq_true.1 e i (List.mem_range.2 hi)) c (List.mem_range.2 hc)
theorem prv_in {rows : List (List Int)} {L : Nat} {ls : List (List Int)} (h : prv rows L ls = true) : ∀ u : List UInt8, OkW L u → u.length < ls.length → led rows (fullS rows) u ∈ snL ls (u.length + 1) := by
  obtain ⟨p1, p2, p3⟩ := prv_parts h
  refine snoc_ind (fun _ h0 => ?_) fun u b ih hu hl => ?_
  · refine (snL_mem _).2 ⟨0, by omega, h0, natL_mem.2 ⟨0, ?_, ?_⟩⟩
    · rw [p1 h0]; simp
    · rw [p1 h0]; simp [led]
  · rw [List.length_append, List.length_singleton] at hl ⊢
    have hb := hu.right b (by simp)
    obtain ⟨j, j1, j2, j3⟩ := (snL_mem _).1 (ih hu.left (by omega))
    obtain ⟨i, i1, i2⟩ := natL_mem.1 j3
    have := p3 j (by omega) i i1 (dig b).toNat (by omega)
    rw [← i2] at this
    unfold stOk at this
    rw [← led_snoc, Bool.or_eq_true, decide_eq_true_iff, hasI_iff] at this
    rcases this with e | e
    · obtain ⟨k, k1, k2, k3⟩ := (snL_mem _).1 e
      exact (snL_mem _).2 ⟨k, by omega, k2, k3⟩
    · refine (snL_mem _).2 ⟨j + 1, by omega, by omega, ?_⟩
      unfold natL
      exact List.mem_map.2 ⟨_, e, Int.toNat_natCast _⟩
/-- no word with fewer letters than there are accepted layers is a reset word -/
theorem prv_short {rows : List (List Int)} {L : Nat} {ls : List (List Int)} (h : prv rows L ls = true) {u : List UInt8} (hu : OkW L u) (hl : u.length < ls.length) : sglB (led rows (fullS rows) u) = false := by
  obtain ⟨j, j1, j2, j3⟩ := (snL_mem _).1 (prv_in h u hu hl)
  obtain ⟨i, i1, i2⟩ := natL_mem.1 j3
  have := (okAt_iff.1 ((prv_parts h).2.1 j j2 i i1)).2.2.1
  rw [← i2] at this
  exact this
/-! ### the layers that are made -/
theorem frK_of {rows : List (List Int)} {S : Nat} {seen : List Nat} {x : Nat} : ∀ c, x ∈ snd (frK rows S seen c) → ∃ c', c' < c ∧ x = img rows S c'
  | 0, h => by simp [snd, frK] at h
  | c + 1, h => by
    by_cases hm : img rows S c ∈ seen ++ (frK rows S seen c).map (·.2)
    · rw [frK_yes hm] at h
      obtain ⟨c', h1, h2⟩ := frK_of c h
      exact ⟨c', by omega, h2⟩
    · rw [frK_no hm, show snd (frK rows S seen c ++ [(c, img rows S c)]) = snd (frK rows S seen c) ++ [img rows S c] by simp [snd]] at h
      rcases List.mem_append.1 h with h | h
      · obtain ⟨c', h1, h2⟩ := frK_of c h
        exact ⟨c', by omega, h2⟩
      · exact ⟨c, by omega, by simpa using h⟩
theorem frK_has {rows : List (List Int)} {S : Nat} {seen : List Nat} : ∀ c c', c' < c → img rows S c' ∈ seen ++ snd (frK rows S seen c)
  | 0, c', h => absurd h (by omega)
  | c + 1, c', h => by
    by_cases hm : img rows S c ∈ seen ++ (frK rows S seen c).map (·.2)
    · rw [frK_yes hm]
      by_cases e : c' < c
      · exact frK_has c c' e
      · obtain rfl : c' = c := by omega
        exact hm
    · rw [frK_no hm, show snd (frK rows S seen c ++ [(c, img rows S c)]) = snd (frK rows S seen c) ++ [img rows S c] by simp [snd], ← List.append_assoc, List.mem_append]
      by_cases e : c' < c
      · exact .inl (frK_has c c' e)
      · obtain rfl : c' = c := by omega
        exact .inr (by simp)
theorem nxtK_of {rows : List (List Int)} {L : Nat} {now seen : List Nat} {x : Nat} : ∀ i, i ≤ now.length → x ∈ nxtK rows L now seen i → ∃ s c, s ∈ now ∧ c < L ∧ x = img rows s c
  | 0, _, h => by simp [nxtK] at h
  | i + 1, hi, h => by
    rw [nxtK_succ, List.mem_append] at h
    rcases h with h | h
    · exact nxtK_of i (by omega) h
    · obtain ⟨c, c1, c2⟩ := frK_of L h
      refine ⟨now.getD i 0, c, ?_, c1, c2⟩
      rw [List.getD_eq_getElem?_getD, List.getElem?_eq_getElem (by omega)]
      exact List.getElem_mem _
theorem nxtK_has {rows : List (List Int)} {L : Nat} {now seen : List Nat} : ∀ i i' c, i' < i → c < L → img rows (now.getD i' 0) c ∈ seen ++ nxtK rows L now seen i
  | 0, i', c, h, _ => absurd h (by omega)
  | i + 1, i', c, h, hc => by
    rw [nxtK_succ, ← List.append_assoc]
    by_cases e : i' < i
    · exact List.mem_append.2 (.inl (nxtK_has i i' c e hc))
    · obtain rfl : i' = i := by omega
      exact frK_has L c hc
theorem layS_word {rows : List (List Int)} {L : Nat} (hL : L ≤ 16) : ∀ j x, x ∈ (layS rows L j).1 → ∃ u, OkW L u ∧ u.length = j ∧ led rows (fullS rows) u = x
  | 0, x, h => by
    obtain rfl : x = 2 ^ rows.length - 1 := by simpa [layS] using h
    exact ⟨[], fun b hb => (by cases hb), rfl, rfl⟩
  | j + 1, x, h => by
    have h' : x ∈ nxtK rows L (layS rows L j).1 (layS rows L j).2 (layS rows L j).1.length := srtN_mem.1 h
    obtain ⟨s, c, h1, h2, rfl⟩ := nxtK_of _ (Nat.le_refl _) h'
    obtain ⟨u, u1, u2, u3⟩ := layS_word hL j s h1
    obtain ⟨b, _, hd⟩ := ltr_list c (by omega)
    refine ⟨u ++ [b], u1.append fun y hy => ?_, by rw [List.length_append, List.length_singleton, u2], by rw [led_snoc, u3, hd]; rfl⟩
    obtain rfl : y = b := by simpa using hy
    omega
theorem layS_seen {rows : List (List Int)} {L : Nat} {x : Nat} : ∀ j, x ∈ (layS rows L j).2 ↔ ∃ i, i ≤ j ∧ x ∈ (layS rows L i).1
  | 0 => ⟨fun h => ⟨0, Nat.le_refl _, h⟩, fun ⟨i, h1, h2⟩ => by rw [show i = 0 by omega] at h2; exact h2⟩
  | j + 1 => by
    rw [show (layS rows L (j + 1)).2 = (layS rows L j).2 ++ nxtK rows L (layS rows L j).1 (layS rows L j).2 (layS rows L j).1.length from rfl, List.mem_append, layS_seen j]
    have e : x ∈ (layS rows L (j + 1)).1 ↔ x ∈ nxtK rows L (layS rows L j).1 (layS rows L j).2 (layS rows L j).1.length := srtN_mem
    rw [← e]
    constructor
    · rintro (⟨i, h1, h2⟩ | h)
      · exact ⟨i, by omega, h2⟩
      · exact ⟨j + 1, Nat.le_refl _, h⟩
    · rintro ⟨i, h1, h2⟩
      by_cases e : i ≤ j
      · exact .inl ⟨i, e, h2⟩
      · obtain rfl : i = j + 1 := by omega
        exact .inr h2
theorem layS_img {rows : List (List Int)} {L j x c : Nat} (hx : x ∈ (layS rows L j).1) (hc : c < L) : img rows x c ∈ (layS rows L j).2 ∨ img rows x c ∈ (layS rows L (j + 1)).1 := by
  obtain ⟨i, hi, rfl⟩ := List.getElem_of_mem hx
  have := nxtK_has (rows := rows) (seen := (layS rows L j).2) (now := (layS rows L j).1) (layS rows L j).1.length i c hi hc
  rw [List.getD_eq_getElem?_getD, List.getElem?_eq_getElem hi, Option.getD_some] at this
  rcases List.mem_append.1 this with h | h
  · exact .inl h
  · exact .inr (srtN_mem.2 h)
theorem layS_sorted {rows : List (List Int)} {L : Nat} (hA : Aut rows L) : ∀ j, (layS rows L j).1.Pairwise (· < ·)
  | 0 => by simp [layS]
  | j + 1 => by
    have hd := ((layS_dif hA j).1.nxt hA (layS rows L j).1 (layS rows L j).1.length).1
    have hn : (srtN (nxtK rows L (layS rows L j).1 (layS rows L j).2 (layS rows L j).1.length)).Nodup := (List.mergeSort_perm _ _).nodup_iff.2 (List.nodup_append.1 hd).2.1
    have hs : (srtN (nxtK rows L (layS rows L j).1 (layS rows L j).2 (layS rows L j).1.length)).Pairwise fun a b => decide (a ≤ b) = true := List.pairwise_mergeSort (fun a b c h1 h2 => by simp only [decide_eq_true_iff] at *; omega) (fun a b => by simp only [Bool.or_eq_true, decide_eq_true_iff]; omega) _
    exact (hs.and hn).imp fun {a b} h => by
      have h1 := of_decide_eq_true h.1
      have h2 := h.2
      omega
theorem lays_get {rows : List (List Int)} {L k j : Nat} (hj : j < k) : ((lays rows L k).map ints).getD j [] = ints (layS rows L j).1 := by
  rw [List.getD_eq_getElem?_getD, List.getElem?_eq_getElem (by rw [List.length_map, lays_len]; exact hj), Option.getD_some, List.getElem_map]
  simp [lays]
theorem natL_ints (a : List Nat) : natL (ints a) = a := by
  unfold natL ints
  rw [List.map_map]
  exact (List.map_congr_left fun x _ => by simp).trans (List.map_id a)
theorem ints_get {a : List Nat} {i : Nat} (hi : i < a.length) : (ints a).getD i 0 = ((a[i] : Nat) : Int) := by
  rw [List.getD_eq_getElem?_getD, List.getElem?_eq_getElem (by rw [ints_len]; exact hi), Option.getD_some]
  simp [ints]
/-- the layers before the first reset word prove it -/
theorem lays_prv {rows : List (List Int)} {L : Nat} (hA : Aut rows L) (h : (first rows L (fullS rows)).2 = true) : prv rows L ((lays rows L (first rows L (fullS rows)).1.size).map ints) = true := by
  obtain ⟨k, hk⟩ : ∃ k, (first rows L (fullS rows)).1.size = k := ⟨_, rfl⟩
  rw [hk]
  have hlen : ((lays rows L k).map ints).length = k := by rw [List.length_map, lays_len]
  have hns : ∀ j x, j < k → x ∈ (layS rows L j).1 → 0 < x ∧ x < 2 ^ rows.length ∧ sglB x = false := fun j x hj hx => by
    obtain ⟨u, u1, u2, rfl⟩ := layS_word hA.L16 j x hx
    refine ⟨led_pos hA (full_lt2 rows) (full_pos hA) u1, hA.led_lt (full_lt2 rows) u1, ?_⟩
    cases e : sglB (led rows (fullS rows) u) with
    | false => rfl
    | true =>
      have hm := first_min hA (full_lt2 rows) u1 e
      have := key_len hA.L16 (first_from hA.L16 hm.1).1 u1 hm.2
      have e1 : (first rows L (fullS rows)).1.data.toList.length = (first rows L (fullS rows)).1.size := by simp
      omega
  refine prv_ok (rows := rows) (L := L) ?_ fun j hj => ?_
  · by_cases h0 : k = 0
    · exact .inl (by rw [hlen]; exact h0)
    · refine .inr ?_
      rw [lays_get (by omega)]
      simp [layS, ints]
  · rw [hlen] at hj
    have hpos := Nat.pow_pos (n := rows.length) (show 0 < 2 by decide)
    refine layOk_yes (fun i hi => ?_) ?_
    · rw [lays_get hj] at hi ⊢
      rw [ints_len] at hi
      obtain ⟨n1, n2, n3⟩ := hns j _ hj (List.getElem_mem hi)
      refine okAt_iff.2 ⟨by rw [ints_get hi]; omega, by rw [ints_get hi]; omega, by rw [ints_get hi, Int.toNat_natCast]; exact n3, fun hi0 => ?_⟩
      rw [ints_get hi, ints_get (show i - 1 < (layS rows L j).1.length by omega)]
      have := List.pairwise_iff_getElem.1 (layS_sorted hA j) (i - 1) i (by omega) hi (by omega)
      omega
    · by_cases hlast : j + 1 = k
      · exact .inl (by rw [hlen]; exact hlast)
      · refine .inr fun i hi c hc => ?_
        rw [lays_get hj] at hi ⊢
        rw [lays_get (show j + 1 < k by omega)]
        rw [ints_len] at hi
        rw [ints_get hi, Int.toNat_natCast]
        unfold stOk
        rw [Bool.or_eq_true, decide_eq_true_iff, hasI_iff]
        rcases layS_img (List.getElem_mem hi) hc with e | e
        · obtain ⟨i', h1, h2⟩ := (layS_seen j).1 e
          exact .inl ((snL_mem _).2 ⟨i', by omega, by rw [hlen]; omega, by rw [lays_get (by omega), natL_ints]; exact h2⟩)
        · refine .inr ?_
          unfold ints
          exact List.mem_map.2 ⟨_, e, rfl⟩
end Go.Proofs.YtmokccidpnpimaaDoor
