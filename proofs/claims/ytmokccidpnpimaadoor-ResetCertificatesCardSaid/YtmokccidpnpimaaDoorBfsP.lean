/- Plain: the search finds the least word (by length, then by letters). -/
import Derived.Test.YtmokccidpnpimaaDoorGrP
set_option linter.unusedVariables false
namespace Go.Proofs.YtmokccidpnpimaaDoor
/-- a word's number: shorter words first, then by letters -/
def key (l : List UInt8) : Nat := l.foldl (fun k b => 17 * k + (dig b).toNat + 1) 0
theorem key_snoc (l : List UInt8) (b : UInt8) : key (l ++ [b]) = 17 * key l + (dig b).toNat + 1 := by unfold key; rw [List.foldl_append]; rfl
theorem snoc_ind {P : List UInt8 → Prop} (h0 : P []) (h1 : ∀ l b, P l → P (l ++ [b])) : ∀ l, P l := fun l => by
  have h : ∀ l : List UInt8, P l.reverse := fun l => by
    induction l with
    | nil => exact h0
    | cons b l ih => rw [List.reverse_cons]; exact h1 _ _ ih
  have := h l.reverse
  rwa [List.reverse_reverse] at this
def gkN : Nat → Nat
  | 0 => 0
  | n + 1 => 17 * gkN n + 1
theorem key_range {L : Nat} (hL : L ≤ 16) : ∀ l : List UInt8, OkW L l → gkN l.length ≤ key l ∧ key l < gkN (l.length + 1) :=
  snoc_ind (fun _ => by decide) fun l b ih h => by
    obtain ⟨h1, h2⟩ := ih h.left
    have hb := h.right b (by simp)
    rw [key_snoc, List.length_append, List.length_singleton]
    simp only [gkN] at h2 ⊢
    omega
theorem gkN_mono : ∀ {n m : Nat}, n ≤ m → gkN n ≤ gkN m := by
  intro n m h
  induction h with
  | refl => exact Nat.le_refl _
  | step _ ih => simp only [gkN]; omega
theorem key_len {L : Nat} (hL : L ≤ 16) {u v : List UInt8} (hu : OkW L u) (hv : OkW L v) (h : key u ≤ key v) : u.length ≤ v.length := by
  rcases Nat.lt_or_ge v.length u.length with e | e
  · have h1 := (key_range hL u hu).1
    have h2 := (key_range hL v hv).2
    have := gkN_mono (show v.length + 1 ≤ u.length from e)
    omega
  · exact e
def kb (x : Nat × ByteArray) : Nat := key x.2.data.toList
theorem kb_app (x : Nat × ByteArray) (T c : Nat) (hc : c < 16) : kb (T, x.2 ++ ltr c) = 17 * kb x + c + 1 := by
  obtain ⟨b, hb, hd⟩ := ltr_list c hc
  unfold kb
  simp only [ByteArray.data_append, Array.toList_append, hb]
  rw [key_snoc, hd]
  rfl
theorem get_snoc {α : Type} {l : List α} {z x : α} {j : Nat} : (l ++ [z])[j]? = some x ↔ l[j]? = some x ∨ (j = l.length ∧ x = z) := by
  rcases Nat.lt_trichotomy j l.length with h | h | h
  · rw [List.getElem?_append_left h]
    exact ⟨.inl, fun e => e.elim id fun e => absurd e.1 (by omega)⟩
  · subst h
    rw [List.getElem?_append_right (Nat.le_refl _), Nat.sub_self, List.getElem?_eq_none (Nat.le_refl l.length)]
    simp [eq_comm]
  · rw [List.getElem?_eq_none (by simp; omega), List.getElem?_eq_none (by omega)]
    simp; omega
/-- what holds of the list when the sets before i have been looked at, and c letters of the set i -/
structure BInv (rows : List (List Int)) (L S i c : Nat) (l : List (Nat × ByteArray)) : Prop where
  fst : ∃ x, l[0]? = some x ∧ x.1 = S ∧ kb x = 0
  inc : ∀ (j k : Nat) (x y : Nat × ByteArray), l[j]? = some x → l[k]? = some y → j < k → kb x < kb y
  par : ∀ (k : Nat) (y : Nat × ByteArray), l[k]? = some y → kb y = 0 ∨ ∃ (j c' : Nat) (x : Nat × ByteArray), l[j]? = some x ∧ (j < i ∨ (j = i ∧ c' < c)) ∧ c' < L ∧ kb y = 17 * kb x + c' + 1
  cls : ∀ (j c' : Nat) (x : Nat × ByteArray), l[j]? = some x → (j < i ∨ (j = i ∧ c' < c)) → c' < L → ∃ (k : Nat) (y : Nat × ByteArray), l[k]? = some y ∧ y.1 = img rows x.1 c' ∧ kb y ≤ 17 * kb x + c' + 1
  nsg : ∀ (j : Nat) (x : Nat × ByteArray), j < i → l[j]? = some x → sglB x.1 = false
theorem BInv.one {rows : List (List Int)} {L S : Nat} : BInv rows L S 0 0 [(S, ⟨#[]⟩)] where
  fst := ⟨_, rfl, rfl, rfl⟩
  inc j k x y h1 h2 h := by
    obtain ⟨e, _⟩ := List.getElem?_eq_some_iff.1 h2
    simp at e; omega
  par k y h := by
    obtain ⟨e, h'⟩ := List.getElem?_eq_some_iff.1 h
    simp at e; subst e; subst h'
    exact .inl rfl
  cls j c' x _ h := by omega
  nsg j x h := by omega
theorem BInv.less {rows : List (List Int)} {L S i c : Nat} {l : List (Nat × ByteArray)} (h : BInv rows L S i c l) (hL : L ≤ 16) {x : Nat × ByteArray} (hx : l[i]? = some x) {k : Nat} {y : Nat × ByteArray} (hy : l[k]? = some y) : kb y < 17 * kb x + c + 1 := by
  rcases h.par k y hy with e | ⟨j, c', p, hp, hj, hc', e⟩
  · omega
  · rcases hj with hj | ⟨rfl, hj⟩
    · have := h.inc j i p x hp hx hj
      omega
    · rw [hx] at hp
      cases hp
      omega
theorem BInv.grow {rows : List (List Int)} {L S i c : Nat} {l : List (Nat × ByteArray)} (h : BInv rows L S i c l) (hL : L ≤ 16) (hc : c < L) {x : Nat × ByteArray} (hx : l[i]? = some x) :
    BInv rows L S i (c + 1) (if img rows x.1 c ∈ l.map (·.1) then l else l ++ [(img rows x.1 c, x.2 ++ ltr c)]) := by
  by_cases hm : img rows x.1 c ∈ l.map (·.1)
  · rw [if_pos hm]
    refine ⟨h.fst, h.inc, fun k y hy => ?_, fun j c' p hp hj hc' => ?_, h.nsg⟩
    · rcases h.par k y hy with e | ⟨j, c', p, hp, hj, hc', e⟩
      · exact .inl e
      · exact .inr ⟨j, c', p, hp, by omega, hc', e⟩
    · by_cases hjc : j < i ∨ (j = i ∧ c' < c)
      · exact h.cls j c' p hp hjc hc'
      · obtain rfl : j = i := by omega
        obtain rfl : c' = c := by omega
        rw [hx] at hp
        cases hp
        obtain ⟨y, hy, e⟩ := List.mem_map.1 hm
        obtain ⟨k, hk, rfl⟩ := List.getElem_of_mem hy
        have hk' : l[k]? = some l[k] := List.getElem?_eq_getElem hk
        exact ⟨k, l[k], hk', e, Nat.le_of_lt (h.less hL hx hk')⟩
  · rw [if_neg hm]
    have hz : kb (img rows x.1 c, x.2 ++ ltr c) = 17 * kb x + c + 1 := kb_app x _ c (by omega)
    have hlt : ∀ (j : Nat) (p : Nat × ByteArray), l[j]? = some p → (l ++ [(img rows x.1 c, x.2 ++ ltr c)])[j]? = some p := fun j p hp => get_snoc.2 (.inl hp)
    refine ⟨?_, fun j k p y hp hy hjk => ?_, fun k y hy => ?_, fun j c' p hp hj hc' => ?_, fun j p hj hp => ?_⟩
    · obtain ⟨y, h1, h2⟩ := h.fst
      exact ⟨y, hlt 0 y h1, h2⟩
    · rcases get_snoc.1 hp with e1 | ⟨e1, rfl⟩
      · rcases get_snoc.1 hy with e2 | ⟨_, rfl⟩
        · exact h.inc j k p y e1 e2 hjk
        · rw [hz]; exact h.less hL hx e1
      · rcases get_snoc.1 hy with e2 | ⟨e2, _⟩
        · have := (List.getElem?_eq_some_iff.1 e2).1; omega
        · omega
    · rcases get_snoc.1 hy with e1 | ⟨_, rfl⟩
      · rcases h.par k y e1 with e | ⟨j, c', p, hp, hj, hc', e⟩
        · exact .inl e
        · exact .inr ⟨j, c', p, hlt j p hp, by omega, hc', e⟩
      · exact .inr ⟨i, c, x, hlt i x hx, by omega, hc, hz⟩
    · have hil := (List.getElem?_eq_some_iff.1 hx).1
      have hp' : l[j]? = some p := by
        rcases get_snoc.1 hp with e | ⟨e, _⟩
        · exact e
        · omega
      by_cases hjc : j < i ∨ (j = i ∧ c' < c)
      · obtain ⟨k, y, h1, h2, h3⟩ := h.cls j c' p hp' hjc hc'
        exact ⟨k, y, hlt k y h1, h2, h3⟩
      · obtain rfl : j = i := by omega
        obtain rfl : c' = c := by omega
        rw [hx] at hp'
        cases hp'
        exact ⟨l.length, _, get_snoc.2 (.inr ⟨rfl, rfl⟩), rfl, by omega⟩
    · have hil := (List.getElem?_eq_some_iff.1 hx).1
      rcases get_snoc.1 hp with e | ⟨e, _⟩
      · exact h.nsg j p hj e
      · omega
theorem BInv.grows {rows : List (List Int)} {L S i : Nat} {l : List (Nat × ByteArray)} (h : BInv rows L S i 0 l) (hL : L ≤ 16) {x : Nat × ByteArray} (hx : l[i]? = some x) : ∀ c, c ≤ L → BInv rows L S i c (growK rows x l c) ∧ (growK rows x l c)[i]? = some x
  | 0, _ => ⟨h, hx⟩
  | c + 1, hc => by
    obtain ⟨h1, h2⟩ := h.grows hL hx c (by omega)
    refine ⟨h1.grow hL (by omega) h2, ?_⟩
    rw [show growK rows x l (c + 1) = if img rows x.1 c ∈ (growK rows x l c).map (·.1) then growK rows x l c else growK rows x l c ++ [(img rows x.1 c, x.2 ++ ltr c)] from rfl]
    split
    · exact h2
    · exact get_snoc.2 (.inl h2)
theorem BInv.next {rows : List (List Int)} {L S i : Nat} {l : List (Nat × ByteArray)} (h : BInv rows L S i L l) {x : Nat × ByteArray} (hx : l[i]? = some x) (hs : sglB x.1 = false) : BInv rows L S (i + 1) 0 l :=
  ⟨h.fst, h.inc, fun k y hy => by
    rcases h.par k y hy with e | ⟨j, c', p, hp, hj, hc', e⟩
    · exact .inl e
    · exact .inr ⟨j, c', p, hp, by omega, hc', e⟩, fun j c' p hp hj hc' => h.cls j c' p hp (by omega) hc', fun j p hj hp => by
    by_cases e : j < i
    · exact h.nsg j p e hp
    · obtain rfl : j = i := by omega
      rw [hx] at hp; cases hp; exact hs⟩
/-- each word's set has been found, by a word that is not greater, before the set i; or the word of the set i is not greater -/
theorem BInv.all {rows : List (List Int)} {L S i : Nat} {l : List (Nat × ByteArray)} (h : BInv rows L S i 0 l) (hi : i ≤ l.length) : ∀ u : List UInt8, OkW L u →
    (∃ (k : Nat) (x : Nat × ByteArray), k < i ∧ l[k]? = some x ∧ x.1 = led rows S u ∧ kb x ≤ key u) ∨ (∃ x : Nat × ByteArray, l[i]? = some x ∧ kb x ≤ key u) :=
  snoc_ind (fun _ => by
    obtain ⟨x, h1, h2, h3⟩ := h.fst
    rcases Nat.eq_zero_or_pos i with rfl | e
    · exact .inr ⟨x, h1, by omega⟩
    · exact .inl ⟨0, x, e, h1, h2, by omega⟩) fun u b ih hu => by
    have hb := hu.right b (by simp)
    rw [led_snoc, key_snoc]
    rcases ih hu.left with ⟨k, x, hk, hx, e1, e2⟩ | ⟨x, hx, e⟩
    · obtain ⟨m, y, hy, f1, f2⟩ := h.cls k (dig b).toNat x hx (.inl hk) (by omega)
      rcases Nat.lt_or_ge m i with hm | hm
      · exact .inl ⟨m, y, hm, hy, by rw [f1, e1], by omega⟩
      · have hml := (List.getElem?_eq_some_iff.1 hy).1
        have hil : i < l.length := by omega
        have hz : l[i]? = some l[i] := List.getElem?_eq_getElem hil
        refine .inr ⟨_, hz, ?_⟩
        rcases Nat.lt_or_ge i m with e | e
        · have := h.inc i m _ y hz hy e; omega
        · obtain rfl : i = m := by omega
          rw [hz] at hy; cases hy; omega
    · exact .inr ⟨x, hx, by omega⟩
theorem bfs_min {rows : List (List Int)} {L S : Nat} (hA : Aut rows L) : ∀ (f i : Nat) (l : List (Nat × ByteArray)), f + i = 65 → i ≤ l.length → GoodL rows l → BInv rows L S i 0 l → ∀ u, OkW L u → sglB (led rows S u) = true →
    (bfs rows L f i l).2 = true ∧ key (bfs rows L f i l).1.data.toList ≤ key u
  | 0, i, l, hf, hi, hg, _, _, _, _ => by have := hg.len hA; omega
  | f + 1, i, l, hf, hi, hg, hB, u, hu, hs => by
    have hL : L ≤ 16 := by have := hA.l3; omega
    cases hx : l[i]? with
    | none =>
      rcases hB.all hi u hu with ⟨k, x, hk, hxk, e1, e2⟩ | ⟨x, hxi, _⟩
      · have := hB.nsg k x hk hxk
        rw [e1, hs] at this; cases this
      · rw [hx] at hxi; cases hxi
    | some x =>
      obtain ⟨hil, hxl⟩ := List.getElem?_eq_some_iff.1 hx
      cases hsx : sglB x.1 with
      | true =>
        have e : bfs rows L (f + 1) i l = (x.2, true) := by unfold bfs; rw [hx]; simp [hsx]
        rw [e]
        refine ⟨rfl, ?_⟩
        rcases hB.all hi u hu with ⟨k, y, hk, hyk, e1, e2⟩ | ⟨y, hy, e2⟩
        · have := hB.nsg k y hk hyk
          rw [e1, hs] at this; cases this
        · rw [hx] at hy; cases hy; exact e2
      | false =>
        have e : bfs rows L (f + 1) i l = bfs rows L f (i + 1) (growK rows x l L) := by
          rw [show bfs rows L (f + 1) i l = (match l[i]? with | none => (⟨#[]⟩, false) | some x => if sglB x.1 then (x.2, true) else bfs rows L f (i + 1) (growK rows x l L)) from rfl, hx]
          simp [hsx]
        rw [e]
        obtain ⟨g1, g2⟩ := hB.grows hL hx L (Nat.le_refl _)
        have hg2 := hg.grow hA hil L (Nat.le_refl _)
        rw [hxl] at hg2
        exact bfs_min hA f (i + 1) _ (by omega) (List.getElem?_eq_some_iff.1 g2).1 hg2 (g1.next g2 hsx) u hu hs
theorem first_min {rows : List (List Int)} {L S : Nat} (hA : Aut rows L) (hS : S < 2 ^ rows.length) {u : List UInt8} (hu : OkW L u) (hs : sglB (led rows S u) = true) : (first rows L S).2 = true ∧ key (first rows L S).1.data.toList ≤ key u :=
  bfs_min hA 65 0 _ rfl (Nat.zero_le _) (GoodL.one hS) BInv.one u hu hs
theorem bfs_no {rows : List (List Int)} {L : Nat} : ∀ (f i : Nat) (l : List (Nat × ByteArray)), (bfs rows L f i l).2 = false → (bfs rows L f i l).1 = ⟨#[]⟩
  | 0, _, _, _ => rfl
  | f + 1, i, l, h => by
    cases hx : l[i]? with
    | none =>
      have e : bfs rows L (f + 1) i l = (⟨#[]⟩, false) := by unfold bfs; rw [hx]
      rw [e]
    | some x =>
      cases hsx : sglB x.1 with
      | true =>
        have e : bfs rows L (f + 1) i l = (x.2, true) := by unfold bfs; rw [hx]; simp [hsx]
        rw [e] at h; cases h
      | false =>
        have e : bfs rows L (f + 1) i l = bfs rows L f (i + 1) (growK rows x l L) := by
          rw [show bfs rows L (f + 1) i l = (match l[i]? with | none => (⟨#[]⟩, false) | some x => if sglB x.1 then (x.2, true) else bfs rows L f (i + 1) (growK rows x l L)) from rfl, hx]
          simp [hsx]
        rw [e] at h ⊢
        exact bfs_no f (i + 1) _ h
theorem first_no {rows : List (List Int)} {L S : Nat} (h : (first rows L S).2 = false) : (first rows L S).1 = ⟨#[]⟩ := bfs_no 65 0 _ h
end Go.Proofs.YtmokccidpnpimaaDoor
