/- Plain law: what n deletions lead to are the subsequences with n letters less; how many there are at most. -/
import Derived.Test.YtmajalpmbppkpaaLetP
set_option linter.unusedVariables false
namespace Go.Proofs.Ytmajalpmbppkpaa
open Go.RowKit
def subs : List UInt8 → List (List UInt8)
  | [] => [[]]
  | a :: l => subs l ++ (subs l).map (a :: ·)
theorem subs_len : ∀ l : List UInt8, (subs l).length = 2 ^ l.length
  | [] => rfl
  | a :: l => by rw [subs, List.length_append, List.length_map, subs_len l, List.length_cons, Nat.pow_succ]; omega
theorem mem_subs : ∀ {l x : List UInt8}, x.Sublist l → x ∈ subs l
  | [], x, h => by
    have : x = [] := List.eq_nil_of_sublist_nil h
    subst this; simp [subs]
  | a :: l, x, h => by
    rw [subs, List.mem_append]
    cases h with
    | cons _ h => exact .inl (mem_subs h)
    | cons_cons _ h => exact .inr (List.mem_map.2 ⟨_, mem_subs h, rfl⟩)
theorem len_subset : ∀ {l m : List (List UInt8)}, l.Nodup → (∀ x ∈ l, x ∈ m) → l.length ≤ m.length
  | [], m, _, _ => Nat.zero_le _
  | a :: l, m, hn, hs => by
    rw [List.nodup_cons] at hn
    have ha : a ∈ m := hs a (by simp)
    have h1 := len_subset (l := l) (m := m.erase a) hn.2 (fun x hx => by
      rw [List.mem_erase_of_ne]
      · exact hs x (by simp [hx])
      · rintro rfl; exact hn.1 hx)
    rw [List.length_erase_of_mem ha] at h1
    have : 0 < m.length := List.length_pos_of_mem ha
    rw [List.length_cons]; omega
/-- a shorter subsequence comes of one deletion from one with a letter more -/
theorem sub_up : ∀ {s x : List UInt8}, x.Sublist s → x.length < s.length → ∃ y i, y.Sublist s ∧ y.length = x.length + 1 ∧ i < y.length ∧ x = DL y i
  | [], x, h, hl => by simp at hl
  | a :: s, x, h, hl => by
    cases h with
    | cons _ h => exact ⟨a :: x, 0, h.cons_cons a, rfl, by simp, by simp [DL]⟩
    | cons_cons _ h =>
      rename_i x'
      obtain ⟨y, i, h1, h2, h3, h4⟩ := sub_up h (by simpa using hl)
      exact ⟨a :: y, i + 1, h1.cons_cons a, by simp [h2], by simp; exact h3, by rw [h4]; simp [DL]⟩
def Pj (s : List UInt8) (j : Nat) (x : List UInt8) : Prop := x.Sublist s ∧ x.length + j = s.length
theorem Pj_step {s x : List UInt8} {j : Nat} : (∃ y, Pj s j y ∧ ∃ i, i < y.length ∧ x = DL y i) ↔ Pj s (j + 1) x := by
  constructor
  · rintro ⟨y, ⟨h1, h2⟩, i, hi, rfl⟩
    have := DL_len y i hi
    exact ⟨(DL_sub y i).trans h1, by omega⟩
  · rintro ⟨h1, h2⟩
    obtain ⟨y, i, h3, h4, h5, h6⟩ := sub_up h1 (by omega)
    exact ⟨y, ⟨h3, by omega⟩, i, h5, h6⟩
end Go.Proofs.Ytmajalpmbppkpaa
