/- Plain: the word that the search finds is a word over the letters, and leads where it should; the layers of the search. -/
import Derived.Test.YtmokccidpnpimaaDoorSrc
import Derived.Test.YtmokccidpnpimaaDoorVer
set_option linter.unusedVariables false
namespace Go.Proofs.YtmokccidpnpimaaDoor
/-- the word of each set that was found leads to it -/
def LedL (rows : List (List Int)) (L S : Nat) (l : List (Nat × ByteArray)) : Prop := ∀ x ∈ l, OkW L x.2.data.toList ∧ led rows S x.2.data.toList = x.1
theorem ltr_list : ∀ c, c < 16 → ∃ b, (ltr c).data.toList = [b] ∧ dig b = c := by
  intro c hc
  match c, hc with
  | 0, _ => exact ⟨48, rfl, by decide⟩
  | 1, _ => exact ⟨49, rfl, by decide⟩
  | 2, _ => exact ⟨50, rfl, by decide⟩
  | 3, _ => exact ⟨51, rfl, by decide⟩
  | 4, _ => exact ⟨52, rfl, by decide⟩
  | 5, _ => exact ⟨53, rfl, by decide⟩
  | 6, _ => exact ⟨54, rfl, by decide⟩
  | 7, _ => exact ⟨55, rfl, by decide⟩
  | 8, _ => exact ⟨56, rfl, by decide⟩
  | 9, _ => exact ⟨57, rfl, by decide⟩
  | 10, _ => exact ⟨97, rfl, by decide⟩
  | 11, _ => exact ⟨98, rfl, by decide⟩
  | 12, _ => exact ⟨99, rfl, by decide⟩
  | 13, _ => exact ⟨100, rfl, by decide⟩
  | 14, _ => exact ⟨101, rfl, by decide⟩
  | 15, _ => exact ⟨102, rfl, by decide⟩
  | n + 16, h => omega
theorem LedL.grow {rows : List (List Int)} {L S : Nat} (hL : L ≤ 16) {l : List (Nat × ByteArray)} (h : LedL rows L S l) {x : Nat × ByteArray} (hx : x ∈ l) : ∀ c, c ≤ L → LedL rows L S (growK rows x l c)
  | 0, _ => h
  | c + 1, hc => by
    have ih := LedL.grow hL h hx c (by omega)
    by_cases hm : img rows x.1 c ∈ (growK rows x l c).map (·.1)
    · rw [growK_yes hm]; exact ih
    · rw [growK_no hm]
      intro z hz
      rcases List.mem_append.1 hz with hz | hz
      · exact ih z hz
      · obtain rfl : z = (img rows x.1 c, x.2 ++ ltr c) := by simpa using hz
        obtain ⟨b, hb, hd⟩ := ltr_list c (by omega)
        obtain ⟨h1, h2⟩ := h x hx
        simp only [ByteArray.data_append, Array.toList_append, hb]
        refine ⟨fun y hy => ?_, ?_⟩
        · rcases List.mem_append.1 hy with hy | hy
          · exact h1 y hy
          · obtain rfl : y = b := by simpa using hy
            omega
        · rw [led_snoc, h2, hd]; rfl
/-- what the search gives back is some set's word -/
theorem bfs_from {rows : List (List Int)} {L S : Nat} (hL : L ≤ 16) : ∀ (f i : Nat) (l : List (Nat × ByteArray)), LedL rows L S l → (bfs rows L f i l).2 = true → OkW L (bfs rows L f i l).1.data.toList ∧ sglB (led rows S (bfs rows L f i l).1.data.toList) = true
  | 0, _, _, _, h => by cases h
  | f + 1, i, l, hl, h => by
    cases hi : l[i]? with
    | none =>
      have e : bfs rows L (f + 1) i l = (⟨#[]⟩, false) := by unfold bfs; rw [hi]
      rw [e] at h; cases h
    | some x =>
      have hx : x ∈ l := List.mem_of_getElem? hi
      cases hs : sglB x.1 with
      | true =>
        have e : bfs rows L (f + 1) i l = (x.2, true) := by unfold bfs; rw [hi]; simp [hs]
        rw [e]
        obtain ⟨h1, h2⟩ := hl x hx
        exact ⟨h1, by rw [h2]; exact hs⟩
      | false =>
        have e : bfs rows L (f + 1) i l = bfs rows L f (i + 1) (growK rows x l L) := by
          rw [show bfs rows L (f + 1) i l = (match l[i]? with | none => (⟨#[]⟩, false) | some x => if sglB x.1 then (x.2, true) else bfs rows L f (i + 1) (growK rows x l L)) from rfl, hi]
          simp [hs]
        rw [e] at h ⊢
        exact bfs_from hL f (i + 1) _ (hl.grow hL hx L (Nat.le_refl _)) h
theorem first_from {rows : List (List Int)} {L S : Nat} (hL : L ≤ 16) (h : (first rows L S).2 = true) : OkW L (first rows L S).1.data.toList ∧ sglB (led rows S (first rows L S).1.data.toList) = true :=
  bfs_from hL 65 0 _ (fun x hx => by
    obtain rfl : x = (S, ⟨#[]⟩) := by simpa using hx
    exact ⟨fun b hb => (by cases hb), rfl⟩) h
theorem bfs_size {rows : List (List Int)} {L : Nat} (hA : Aut rows L) : ∀ (f i : Nat) (l : List (Nat × ByteArray)), GoodL rows l → (bfs rows L f i l).1.size ≤ 64
  | 0, _, _, _ => by show (0 : Nat) ≤ 64; omega
  | f + 1, i, l, hl => by
    cases hi : l[i]? with
    | none =>
      have e : bfs rows L (f + 1) i l = (⟨#[]⟩, false) := by unfold bfs; rw [hi]
      rw [e]; show (0 : Nat) ≤ 64; omega
    | some x =>
      obtain ⟨hil, hx⟩ := List.getElem?_eq_some_iff.1 hi
      cases hs : sglB x.1 with
      | true =>
        have e : bfs rows L (f + 1) i l = (x.2, true) := by unfold bfs; rw [hi]; simp [hs]
        rw [e]
        have := hl.sz i hil
        have := hl.len hA
        rw [← hx]; show l[i].2.size ≤ 64; omega
      | false =>
        have e : bfs rows L (f + 1) i l = bfs rows L f (i + 1) (growK rows x l L) := by
          rw [show bfs rows L (f + 1) i l = (match l[i]? with | none => (⟨#[]⟩, false) | some x => if sglB x.1 then (x.2, true) else bfs rows L f (i + 1) (growK rows x l L)) from rfl, hi]
          simp [hs]
        rw [e, ← hx]
        exact bfs_size hA f (i + 1) _ (hl.grow hA hil L (Nat.le_refl _))
theorem first_size {rows : List (List Int)} {L S : Nat} (hA : Aut rows L) (hS : S < 2 ^ rows.length) : (first rows L S).1.size ≤ 64 := bfs_size hA 65 0 _ (GoodL.one hS)
theorem dig_ascii {b : UInt8} (h : 0 ≤ dig b) : b.toNat < 128 := by
  have key : ∀ k : Fin 256, 0 ≤ dig (UInt8.ofNat k) → k.val < 128 := by decide +kernel
  have := key ⟨b.toNat, b.toNat_lt⟩
  simp only [UInt8.ofNat_toNat] at this
  exact this h
/-! ### layers -/
/-- the new sets that the first i sets of a layer lead to -/
def nxtK (rows : List (List Int)) (L : Nat) (now seen : List Nat) : Nat → List Nat
  | 0 => []
  | i + 1 => nxtK rows L now seen i ++ snd (frK rows (now.getD i 0) (seen ++ nxtK rows L now seen i) L)
def srtN (l : List Nat) : List Nat := l.mergeSort fun x y => decide (x ≤ y)
/-- layer k, and what was seen when it was made -/
def layS (rows : List (List Int)) (L : Nat) : Nat → List Nat × List Nat
  | 0 => ([2 ^ rows.length - 1], [2 ^ rows.length - 1])
  | k + 1 => (srtN (nxtK rows L (layS rows L k).1 (layS rows L k).2 (layS rows L k).1.length), (layS rows L k).2 ++ nxtK rows L (layS rows L k).1 (layS rows L k).2 (layS rows L k).1.length)
/-- different sets -/
def Dif (n : Nat) (l : List Nat) : Prop := l.Nodup ∧ ∀ x ∈ l, x < 2 ^ n
theorem Dif.len {rows : List (List Int)} {L : Nat} (hA : Aut rows L) {l : List Nat} (h : Dif rows.length l) : l.length ≤ 64 := by
  have := nodup_len (2 ^ rows.length) l h.1 h.2
  have := hA.pow
  omega
theorem Dif.fr {rows : List (List Int)} {L S : Nat} (hA : Aut rows L) {seen : List Nat} (h : Dif rows.length seen) : ∀ c, c ≤ L → Dif rows.length (seen ++ snd (frK rows S seen c))
  | 0, _ => by simpa [snd, frK] using h
  | c + 1, hc => by
    have ih := Dif.fr (S := S) hA h c (by omega)
    by_cases hm : img rows S c ∈ seen ++ (frK rows S seen c).map (·.2)
    · rw [frK_yes hm]; exact ih
    · rw [frK_no hm, show snd (frK rows S seen c ++ [(c, img rows S c)]) = snd (frK rows S seen c) ++ [img rows S c] by simp [snd], ← List.append_assoc]
      refine ⟨?_, fun x hx => ?_⟩
      · rw [List.nodup_append]
        refine ⟨ih.1, by simp, fun a ha b hb => ?_⟩
        obtain rfl : b = img rows S c := by simpa using hb
        rintro rfl
        exact hm ha
      · rcases List.mem_append.1 hx with hx | hx
        · exact ih.2 x hx
        · obtain rfl : x = img rows S c := by simpa using hx
          exact hA.img_lt (by omega) _
theorem Dif.nxt {rows : List (List Int)} {L : Nat} (hA : Aut rows L) {seen : List Nat} (now : List Nat) (h : Dif rows.length seen) : ∀ i, Dif rows.length (seen ++ nxtK rows L now seen i)
  | 0 => by simpa [nxtK] using h
  | i + 1 => by
    have := (Dif.nxt hA now h i).fr (S := now.getD i 0) hA L (Nat.le_refl _)
    rw [List.append_assoc] at this
    exact this
theorem srtN_mem {l : List Nat} {x : Nat} : x ∈ srtN l ↔ x ∈ l := (List.mergeSort_perm _ _).mem_iff
theorem srtN_len (l : List Nat) : (srtN l).length = l.length := List.length_mergeSort ..
theorem layS_dif {rows : List (List Int)} {L : Nat} (hA : Aut rows L) : ∀ k, Dif rows.length (layS rows L k).2 ∧ (∀ x ∈ (layS rows L k).1, x < 2 ^ rows.length) ∧ (layS rows L k).1.length ≤ 64
  | 0 => ⟨⟨by simp [layS], fun x hx => by obtain rfl : x = 2 ^ rows.length - 1 := by simpa [layS] using hx
                                          exact full_lt _⟩, fun x hx => by obtain rfl : x = 2 ^ rows.length - 1 := by simpa [layS] using hx
                                                                           exact full_lt _, by simp [layS]⟩
  | k + 1 => by
    obtain ⟨h1, h2, h3⟩ := layS_dif hA k
    have hd := h1.nxt hA (layS rows L k).1 (layS rows L k).1.length
    refine ⟨hd, fun x hx => hd.2 x (List.mem_append.2 (.inr (srtN_mem.1 hx))), ?_⟩
    have := hd.len hA
    rw [List.length_append] at this
    show (srtN _).length ≤ 64
    rw [srtN_len]
    omega
/-- the first k layers -/
def lays (rows : List (List Int)) (L k : Nat) : List (List Nat) := (List.range k).map fun j => (layS rows L j).1
theorem lays_succ (rows : List (List Int)) (L k : Nat) : lays rows L (k + 1) = lays rows L k ++ [(layS rows L k).1] := by simp [lays, List.range_succ]
theorem lays_len (rows : List (List Int)) (L k : Nat) : (lays rows L k).length = k := by simp [lays]
def ints (l : List Nat) : List Int := l.map (fun x : Nat => (x : Int))
theorem ints_len (l : List Nat) : (ints l).length = l.length := by simp [ints]
theorem srt_ints (l : List Nat) : (ints l).mergeSort (fun x y => decide (x ≤ y)) = ints (srtN l) := by
  unfold ints srtN
  rw [List.map_mergeSort]
  intro a _ b _
  simp
theorem ints_append (a b : List Nat) : ints (a ++ b) = ints a ++ ints b := by simp [ints]
end Go.Proofs.YtmokccidpnpimaaDoor
