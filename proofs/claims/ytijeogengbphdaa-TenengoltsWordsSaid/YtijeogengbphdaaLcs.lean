/- The plain law of longest common subsequences and of the distance by insertions and deletions. No Go here. -/
import Derived.Lib.Hide
set_option linter.unusedVariables false
namespace Go.Proofs.Ytijeogengbphdaa
open List
/-- the length of the longest common subsequences, as the program reckons it -/
def lcs : List UInt8 → List UInt8 → Nat
  | [], _ => 0
  | _ :: _, [] => 0
  | a :: u, b :: v => if a = b then 1 + lcs u v else max (lcs u (b :: v)) (lcs (a :: u) v)
termination_by u v => u.length + v.length
/-- the distance, as the reference reckons it -/
def dist : List UInt8 → List UInt8 → Nat
  | [], v => v.length
  | a :: u, [] => u.length + 1
  | a :: u, b :: v => if a = b then dist u v else 1 + min (dist u (b :: v)) (dist (a :: u) v)
termination_by u v => u.length + v.length
theorem lcs_nil_right (u : List UInt8) : lcs u [] = 0 := by cases u <;> simp [lcs]
theorem lcs_nil_left (v : List UInt8) : lcs [] v = 0 := by simp [lcs]
theorem dist_nil_right (u : List UInt8) : dist u [] = u.length := by cases u <;> simp [dist]
theorem dist_lcs : ∀ u v : List UInt8, dist u v + 2 * lcs u v = u.length + v.length
  | [], v => by simp [dist, lcs]
  | a :: u, [] => by simp [dist, lcs]
  | a :: u, b :: v => by
    have h1 := dist_lcs u v
    have h2 := dist_lcs u (b :: v)
    have h3 := dist_lcs (a :: u) v
    rw [dist, lcs]
    simp only [List.length_cons] at *
    split <;> omega
termination_by u v => u.length + v.length
/-- every common subsequence is at most so long -/
theorem lcs_max : ∀ u v s : List UInt8, s <+ u → s <+ v → s.length ≤ lcs u v
  | [], v, s, h, _ => by rw [List.sublist_nil.1 h]; simp
  | a :: u, [], s, _, h => by rw [List.sublist_nil.1 h]; simp
  | a :: u, b :: v, s, h1, h2 => by
    rw [lcs]
    cases s with
    | nil => simp
    | cons c s =>
      split
      · next e =>
        have k1 : s <+ u := by
          cases h1 with
          | cons _ h => exact (List.sublist_cons_self c s).trans h
          | cons_cons _ h => exact h
        have k2 : s <+ v := by
          cases h2 with
          | cons _ h => exact (List.sublist_cons_self c s).trans h
          | cons_cons _ h => exact h
        have := lcs_max u v s k1 k2
        simp only [List.length_cons]; omega
      · next e =>
        cases h1 with
        | cons _ h => have := lcs_max u (b :: v) (c :: s) h h2; omega
        | cons_cons _ h =>
          cases h2 with
          | cons _ h' => have := lcs_max (a :: u) v (a :: s) (List.Sublist.cons_cons a h) h'; omega
          | cons_cons _ h' => exact absurd rfl e
termination_by u v => u.length + v.length
/-- and one is so long -/
theorem lcs_ex : ∀ u v : List UInt8, ∃ s : List UInt8, s <+ u ∧ s <+ v ∧ s.length = lcs u v
  | [], v => ⟨[], List.Sublist.slnil, List.nil_sublist _, by simp [lcs]⟩
  | a :: u, [] => ⟨[], List.nil_sublist _, List.nil_sublist _, by simp [lcs]⟩
  | a :: u, b :: v => by
    rw [lcs]
    split
    · next e =>
      obtain ⟨s, h1, h2, h3⟩ := lcs_ex u v
      exact ⟨a :: s, h1.cons_cons a, e ▸ h2.cons_cons a, by simp [h3]; omega⟩
    · next e =>
      obtain ⟨s, h1, h2, h3⟩ := lcs_ex u (b :: v)
      obtain ⟨t, k1, k2, k3⟩ := lcs_ex (a :: u) v
      by_cases hle : lcs u (b :: v) ≤ lcs (a :: u) v
      · exact ⟨t, k1, k2.cons b, by omega⟩
      · exact ⟨s, h1.cons a, h2, by omega⟩
termination_by u v => u.length + v.length
theorem lcs_sym (u v : List UInt8) : lcs u v = lcs v u := by
  obtain ⟨s, h1, h2, h3⟩ := lcs_ex u v
  obtain ⟨t, k1, k2, k3⟩ := lcs_ex v u
  have := lcs_max v u s h2 h1
  have := lcs_max u v t k2 k1
  omega
theorem dist_sym (u v : List UInt8) : dist u v = dist v u := by
  have h1 := dist_lcs u v; have h2 := dist_lcs v u; have h3 := lcs_sym u v; omega
theorem lcs_le_left (u v : List UInt8) : lcs u v ≤ u.length := by
  obtain ⟨s, h1, h2, h3⟩ := lcs_ex u v; rw [← h3]; exact h1.length_le
theorem lcs_le_right (u v : List UInt8) : lcs u v ≤ v.length := by
  obtain ⟨s, h1, h2, h3⟩ := lcs_ex u v; rw [← h3]; exact h2.length_le
theorem dist_zero (u v : List UInt8) : dist u v = 0 ↔ u = v := by
  constructor
  · intro h
    have h1 := dist_lcs u v; have h2 := lcs_le_left u v; have h3 := lcs_le_right u v
    obtain ⟨s, k1, k2, k3⟩ := lcs_ex u v
    have e1 : s = u := k1.eq_of_length (by omega)
    have e2 : s = v := k2.eq_of_length (by omega)
    rw [← e1, ← e2]
  · rintro rfl
    have h1 := dist_lcs u u
    have h2 := lcs_max u u u (List.Sublist.refl u) (List.Sublist.refl u)
    omega
/-- two subsequences of a word have a common one that is long enough -/
theorem sub_meet {v : List UInt8} : ∀ {s t : List UInt8}, s <+ v → t <+ v → ∃ r : List UInt8, r <+ s ∧ r <+ t ∧ s.length + t.length ≤ v.length + r.length := by
  induction v with
  | nil =>
    intro s t h1 h2
    rw [List.sublist_nil.1 h1, List.sublist_nil.1 h2]
    exact ⟨[], List.Sublist.slnil, List.Sublist.slnil, by simp⟩
  | cons a v ih =>
    intro s t h1 h2
    cases h1 with
    | cons _ h1 =>
      cases h2 with
      | cons _ h2 =>
        obtain ⟨r, k1, k2, k3⟩ := ih h1 h2
        exact ⟨r, k1, k2, by simp only [List.length_cons]; omega⟩
      | @cons_cons t _ _ h2 =>
        obtain ⟨r, k1, k2, k3⟩ := ih h1 h2
        exact ⟨r, k1, k2.cons a, by simp only [List.length_cons]; omega⟩
    | @cons_cons s _ _ h1 =>
      cases h2 with
      | cons _ h2 =>
        obtain ⟨r, k1, k2, k3⟩ := ih h1 h2
        exact ⟨r, k1.cons a, k2, by simp only [List.length_cons]; omega⟩
      | @cons_cons t _ _ h2 =>
        obtain ⟨r, k1, k2, k3⟩ := ih h1 h2
        exact ⟨a :: r, k1.cons_cons a, k2.cons_cons a, by simp only [List.length_cons]; omega⟩
theorem dist_tri (u v w : List UInt8) : dist u w ≤ dist u v + dist v w := by
  obtain ⟨s, h1, h2, h3⟩ := lcs_ex u v
  obtain ⟨t, k1, k2, k3⟩ := lcs_ex v w
  obtain ⟨r, r1, r2, r3⟩ := sub_meet h2 k1
  have := lcs_max u w r (r1.trans h1) (r2.trans k2)
  have := dist_lcs u v; have := dist_lcs v w; have := dist_lcs u w
  omega
/-- one letter less on the right -/
theorem dist_del (u A B : List UInt8) (b : UInt8) : dist u (A ++ B) = dist u (A ++ b :: B) + 1 ∨ dist u (A ++ B) + 1 = dist u (A ++ b :: B) := by
  have hs : (A ++ B) <+ (A ++ b :: B) := List.Sublist.append_left (List.sublist_cons_self b B) A
  obtain ⟨s, h1, h2, h3⟩ := lcs_ex u (A ++ B)
  have h4 := lcs_max u (A ++ b :: B) s h1 (h2.trans hs)
  obtain ⟨t, k1, k2, k3⟩ := lcs_ex u (A ++ b :: B)
  obtain ⟨r, r1, r2, r3⟩ := sub_meet k2 hs
  have h5 := lcs_max u (A ++ B) r (r1.trans k1) r2
  have d1 := dist_lcs u (A ++ B); have d2 := dist_lcs u (A ++ b :: B)
  simp only [List.length_append, List.length_cons] at *
  omega
end Go.Proofs.Ytijeogengbphdaa
