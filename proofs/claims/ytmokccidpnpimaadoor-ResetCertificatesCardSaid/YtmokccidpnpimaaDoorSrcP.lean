/- Plain: the list of what the search for a word has found. -/
import Derived.Test.YtmokccidpnpimaaDoorSea
set_option linter.unusedVariables false
namespace Go.Proofs.YtmokccidpnpimaaDoor
/-- different numbers below m are at most m -/
theorem nodup_len : ∀ (m : Nat) (l : List Nat), l.Nodup → (∀ x ∈ l, x < m) → l.length ≤ m
  | 0, l, _, h => by
    cases l with
    | nil => exact Nat.le_refl _
    | cons a l => exact absurd (h a (List.mem_cons_self ..)) (by omega)
  | m + 1, l, hn, h => by
    by_cases hm : m ∈ l
    · have h1 := nodup_len m (l.erase m) (hn.erase _) fun x hx => by
        have hx2 := hn.mem_erase_iff.1 hx
        have := h x hx2.2
        have := hx2.1
        omega
      rw [List.length_erase_of_mem hm] at h1
      omega
    · have := nodup_len m l hn fun x hx => by
        have := h x hx
        have : x ≠ m := fun e => hm (e ▸ hx)
        omega
      omega
theorem growK_yes {rows : List (List Int)} {x : Nat × ByteArray} {l : List (Nat × ByteArray)} {c : Nat} (h : img rows x.1 c ∈ (growK rows x l c).map (·.1)) : growK rows x l (c + 1) = growK rows x l c := by
  rw [show growK rows x l (c + 1) = if img rows x.1 c ∈ (growK rows x l c).map (·.1) then growK rows x l c else growK rows x l c ++ [(img rows x.1 c, x.2 ++ ltr c)] from rfl, if_pos h]
theorem growK_no {rows : List (List Int)} {x : Nat × ByteArray} {l : List (Nat × ByteArray)} {c : Nat} (h : img rows x.1 c ∉ (growK rows x l c).map (·.1)) : growK rows x l (c + 1) = growK rows x l c ++ [(img rows x.1 c, x.2 ++ ltr c)] := by
  rw [show growK rows x l (c + 1) = if img rows x.1 c ∈ (growK rows x l c).map (·.1) then growK rows x l c else growK rows x l c ++ [(img rows x.1 c, x.2 ++ ltr c)] from rfl, if_neg h]
/-- what holds of all that was found -/
structure GoodL (rows : List (List Int)) (l : List (Nat × ByteArray)) : Prop where
  nd : (l.map (·.1)).Nodup
  lt : ∀ x ∈ l, x.1 < 2 ^ rows.length
  sz : ∀ j (h : j < l.length), l[j].2.size ≤ j
theorem GoodL.len {rows : List (List Int)} {L : Nat} (hA : Aut rows L) {l : List (Nat × ByteArray)} (h : GoodL rows l) : l.length ≤ 64 := by
  have := nodup_len (2 ^ rows.length) (l.map (·.1)) h.nd fun x hx => by
    obtain ⟨y, hy, rfl⟩ := List.mem_map.1 hx
    exact h.lt y hy
  have h2 := hA.pow
  rw [List.length_map] at this
  omega
theorem GoodL.one {rows : List (List Int)} {S : Nat} (hS : S < 2 ^ rows.length) : GoodL rows [(S, ⟨#[]⟩)] :=
  ⟨by simp, fun x hx => by obtain rfl : x = (S, ⟨#[]⟩) := by simpa using hx
                           exact hS, fun j hj => by simp at hj; subst hj; simp; rfl⟩
theorem ltr_size {c : Nat} (h : c < 16) : (ltr c).size = 1 := by
  have : ∀ c, c < 16 → (ltr c).size = 1 := by decide +kernel
  exact this c h
theorem growK_get {rows : List (List Int)} {x : Nat × ByteArray} {l : List (Nat × ByteArray)} {i : Nat} (hi : i < l.length) : ∀ c, ∃ h : i < (growK rows x l c).length, (growK rows x l c)[i] = l[i]
  | 0 => ⟨hi, rfl⟩
  | c + 1 => by
    obtain ⟨h, e⟩ := growK_get (rows := rows) (x := x) hi c
    by_cases hm : img rows x.1 c ∈ (growK rows x l c).map (·.1)
    · rw [growK_yes hm]; exact ⟨h, e⟩
    · rw [growK_no hm]
      exact ⟨by rw [List.length_append]; omega, by rw [List.getElem_append_left h, e]⟩
theorem GoodL.grow {rows : List (List Int)} {L : Nat} (hA : Aut rows L) {l : List (Nat × ByteArray)} (h : GoodL rows l) {i : Nat} (hi : i < l.length) : ∀ c, c ≤ L → GoodL rows (growK rows l[i] l c)
  | 0, _ => h
  | c + 1, hc => by
    have ih := GoodL.grow hA h hi c (by omega)
    obtain ⟨hg, _⟩ := growK_get (rows := rows) (x := l[i]) hi c
    by_cases hm : img rows l[i].1 c ∈ (growK rows l[i] l c).map (·.1)
    · rw [growK_yes hm]; exact ih
    · rw [growK_no hm]
      refine ⟨?_, fun x hx => ?_, fun j hj => ?_⟩
      · rw [List.map_append, List.nodup_append]
        refine ⟨ih.nd, by simp, fun a ha b hb => ?_⟩
        obtain rfl : b = img rows l[i].1 c := by simpa using hb
        rintro rfl
        exact hm ha
      · rcases List.mem_append.1 hx with hx | hx
        · exact ih.lt x hx
        · obtain rfl : x = (img rows l[i].1 c, l[i].2 ++ ltr c) := by simpa using hx
          exact hA.img_lt (by omega) _
      · rcases Nat.lt_or_ge j (growK rows l[i] l c).length with h1 | h1
        · rw [List.getElem_append_left h1]; exact ih.sz j h1
        · have hj2 : j = (growK rows l[i] l c).length := by simp at hj; omega
          subst hj2
          rw [List.getElem_append_right (Nat.le_refl _)]
          simp only [Nat.sub_self, List.getElem_cons_zero, ByteArray.size_append]
          rw [ltr_size (by have := hA.l3; omega)]
          have := h.sz i hi
          omega
theorem bfs_hit {rows : List (List Int)} {L : Nat} {l : List (Nat × ByteArray)} {i : Nat} (hi : i < l.length) (hl : l.length ≤ 64) (h : sglB l[i].1 = true) : bfs rows L (65 - i) i l = (l[i].2, true) := by
  obtain ⟨f, hf⟩ : ∃ f, 65 - i = f + 1 := ⟨64 - i, by omega⟩
  rw [hf]; unfold bfs
  rw [List.getElem?_eq_getElem hi]
  simp only [h, if_pos]
theorem bfs_step {rows : List (List Int)} {L : Nat} {l : List (Nat × ByteArray)} {i : Nat} (hi : i < l.length) (hl : l.length ≤ 64) (h : sglB l[i].1 = false) : bfs rows L (65 - i) i l = bfs rows L (65 - (i + 1)) (i + 1) (growK rows l[i] l L) := by
  obtain ⟨f, hf⟩ : ∃ f, 65 - i = f + 1 := ⟨64 - i, by omega⟩
  have h2 : 65 - (i + 1) = f := by omega
  rw [hf, h2]
  rw [show bfs rows L (f + 1) i l = (match l[i]? with | none => (⟨#[]⟩, false) | some x => if sglB x.1 then (x.2, true) else bfs rows L f (i + 1) (growK rows x l L)) from rfl]
  rw [List.getElem?_eq_getElem hi]
  simp only [h]
  rfl
theorem bfs_end {rows : List (List Int)} {L : Nat} {l : List (Nat × ByteArray)} {i : Nat} (hi : l.length ≤ i) (hi2 : i ≤ 64) : bfs rows L (65 - i) i l = (⟨#[]⟩, false) := by
  obtain ⟨f, hf⟩ : ∃ f, 65 - i = f + 1 := ⟨64 - i, by omega⟩
  rw [hf]; unfold bfs
  rw [List.getElem?_eq_none hi]
def fsN (l : List (Nat × ByteArray)) : List Nat := l.map (·.1)
def fsI (l : List (Nat × ByteArray)) : List Int := l.map fun x => (x.1 : Int)
def wsB (l : List (Nat × ByteArray)) : List ByteArray := l.map (·.2)
theorem fsI_len (l : List (Nat × ByteArray)) : (fsI l).length = l.length := by simp [fsI]
theorem wsB_len (l : List (Nat × ByteArray)) : (wsB l).length = l.length := by simp [wsB]
theorem fsN_len (l : List (Nat × ByteArray)) : (fsN l).length = l.length := by simp [fsN]
theorem fsN_snoc (l : List (Nat × ByteArray)) (x : Nat × ByteArray) : fsN (l ++ [x]) = fsN l ++ [x.1] := by simp [fsN]
theorem fsI_snoc (l : List (Nat × ByteArray)) (x : Nat × ByteArray) : fsI (l ++ [x]) = fsI l ++ [(x.1 : Int)] := by simp [fsI]
theorem wsB_snoc (l : List (Nat × ByteArray)) (x : Nat × ByteArray) : wsB (l ++ [x]) = wsB l ++ [x.2] := by simp [wsB]
theorem fsI_get (l : List (Nat × ByteArray)) (i : Nat) (h : i < l.length) : (fsI l)[i]'(by rw [fsI_len]; exact h) = (l[i].1 : Int) := by simp [fsI]
theorem wsB_get (l : List (Nat × ByteArray)) (i : Nat) (h : i < l.length) : (wsB l)[i]'(by rw [wsB_len]; exact h) = l[i].2 := by simp [wsB]
end Go.Proofs.YtmokccidpnpimaaDoor
