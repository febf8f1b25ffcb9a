/- Plain law: the shortest script leads from the one word to the other one, and has as many events as the distance. -/
import Derived.Test.YtmajalpmbppkpaaScr
set_option linter.unusedVariables false
namespace Go.Proofs.Ytmajalpmbppkpaa
open Go.RowKit
theorem dist_cons (a b : UInt8) (u v : List UInt8) : dist (a :: u) (b :: v) = if a = b then dist u v else 1 + min (dist u (b :: v)) (dist (a :: u) v) := by
  rw [dist]
theorem evs_len : ∀ (f : Nat) (u v : List UInt8) (i : Nat), u.length + v.length < f → (evs f u v i).length = dist u v
  | 0, u, v, i, h => by omega
  | f + 1, u, v, i, h => by
    rw [evs]
    by_cases h0 : dist u v = 0
    · rw [if_pos h0, h0]; rfl
    · rw [if_neg h0]
      by_cases h1 : u ≠ [] ∧ dist u.tail v + 1 = dist u v
      · rw [if_pos h1, List.length_cons, evs_len f u.tail v (i + 1) (by
          have : u.length ≠ 0 := fun e => h1.1 (List.eq_nil_of_length_eq_zero e)
          rw [List.length_tail]; omega)]
        exact h1.2
      · rw [if_neg h1]
        by_cases h2 : v ≠ [] ∧ dist u v.tail + 1 = dist u v
        · rw [if_pos h2, List.length_cons, evs_len f u v.tail i (by
            have : v.length ≠ 0 := fun e => h2.1 (List.eq_nil_of_length_eq_zero e)
            rw [List.length_tail]; omega)]
          exact h2.2
        · rw [if_neg h2]
          match u, v with
          | [], v =>
            exfalso
            apply h2
            have hd : ∀ v : List UInt8, dist [] v = v.length := fun v => by rw [dist_sym, dist_nil_right]
            rw [hd] at h0 ⊢
            rw [hd]
            refine ⟨fun e => h0 (by rw [e]; rfl), ?_⟩
            rw [List.length_tail]; omega
          | a :: u, [] =>
            exfalso
            apply h1
            rw [dist_nil_right] at h0 ⊢
            rw [dist_nil_right]
            exact ⟨by simp, by simp⟩
          | a :: u, b :: v =>
            simp only [List.tail_cons] at h1 h2 ⊢
            rw [evs_len f u v (i + 1) (by simp at h; omega)]
            rw [dist_cons] at h1 h2 ⊢
            by_cases e : a = b
            · rw [if_pos e]
            · exfalso
              rw [if_neg e] at h1 h2
              rcases Nat.le_total (dist u (b :: v)) (dist (a :: u) v) with hh | hh
              · exact h1 ⟨by simp, by rw [Nat.min_eq_left hh]; omega⟩
              · exact h2 ⟨by simp, by rw [Nat.min_eq_right hh]; omega⟩
/-- the events that are left lead on: what is made so far, and what is left from at on -/
def Inv (u v : List UInt8) (at_ : Nat) (made : List UInt8) (rest : List Ev) : Prop :=
  ∃ f i k, rest = evs f (u.drop i) (v.drop k) i ∧ (u.length - i) + (v.length - k) < f ∧ at_ ≤ i ∧ i ≤ u.length ∧ k ≤ v.length ∧ made ++ (u.drop at_).take (i - at_) = v.take k
theorem take_more {u : List UInt8} {a i : Nat} (ha : a ≤ i) (hi : i < u.length) : (u.drop a).take (i + 1 - a) = (u.drop a).take (i - a) ++ [u[i]] := by
  rw [show i + 1 - a = (i - a) + 1 by omega, List.take_succ_eq_append_getElem (by simp; omega)]
  simp [show a + (i - a) = i by omega]
theorem inv_go (u v : List UInt8) : ∀ (f : Nat) (at_ i k : Nat) (made : List UInt8) (rest : List Ev), rest = evs f (u.drop i) (v.drop k) i → (u.length - i) + (v.length - k) < f → at_ ≤ i → i ≤ u.length → k ≤ v.length → made ++ (u.drop at_).take (i - at_) = v.take k →
    (rest = [] ∧ made ++ u.drop at_ = v) ∨ ∃ (j : Nat) (e : Ev) (r : List Ev), rest = e :: r ∧ e.at_ = (j : Int) ∧ at_ ≤ j ∧ j ≤ u.length ∧ e.len = 1 ∧
      ((e.kind = 4 ∧ j < u.length ∧ e.letter = 0 ∧ Inv u v (j + 1) (made ++ (u.drop at_).take (j - at_)) r) ∨ (e.kind = 5 ∧ ∃ c ∈ v, e.letter = dig c ∧ Inv u v j (made ++ (u.drop at_).take (j - at_) ++ [c]) r))
  | 0, at_, i, k, made, rest, hr, hf, ha, hi, hk, hm => by omega
  | f + 1, at_, i, k, made, rest, hr, hf, ha, hi, hk, hm => by
    rw [evs] at hr
    by_cases h0 : dist (u.drop i) (v.drop k) = 0
    · rw [if_pos h0] at hr
      refine .inl ⟨hr, ?_⟩
      have he := (dist_zero _ _).1 h0
      have : u.drop at_ = (u.drop at_).take (i - at_) ++ u.drop i := by
        have h2 := List.take_append_drop (i - at_) (u.drop at_)
        rw [List.drop_drop, show at_ + (i - at_) = i by omega] at h2
        exact h2.symm
      rw [this, ← List.append_assoc, hm, he, List.take_append_drop]
    · rw [if_neg h0] at hr
      by_cases h1 : u.drop i ≠ [] ∧ dist (u.drop i).tail (v.drop k) + 1 = dist (u.drop i) (v.drop k)
      · rw [if_pos h1] at hr
        have hil : i < u.length := by
          rcases Nat.lt_or_ge i u.length with h | h
          · exact h
          · exact absurd (List.drop_of_length_le h) h1.1
        refine .inr ⟨i, _, _, hr, rfl, ha, hi, rfl, .inl ⟨rfl, hil, rfl, f, i + 1, k, ?_, by omega, Nat.le_refl _, hil, hk, ?_⟩⟩
        · rw [List.tail_drop]
        · rw [hm, Nat.sub_self, List.take_zero, List.append_nil]
      · rw [if_neg h1] at hr
        by_cases h2 : v.drop k ≠ [] ∧ dist (u.drop i) (v.drop k).tail + 1 = dist (u.drop i) (v.drop k)
        · rw [if_pos h2] at hr
          have hkl : k < v.length := by
            rcases Nat.lt_or_ge k v.length with h | h
            · exact h
            · exact absurd (List.drop_of_length_le h) h2.1
          refine .inr ⟨i, _, _, hr, rfl, ha, hi, rfl, .inr ⟨rfl, v[k], List.getElem_mem hkl, ?_, f, i, k + 1, ?_, by omega, Nat.le_refl _, hi, hkl, ?_⟩⟩
          · rw [List.drop_eq_getElem_cons hkl]; rfl
          · rw [List.tail_drop]
          · rw [hm, Nat.sub_self, List.take_zero, List.append_nil, List.take_succ_eq_append_getElem hkl]
        · rw [if_neg h2] at hr
          -- both have a letter here, the same one
          have hil : i < u.length := by
            rcases Nat.lt_or_ge i u.length with h | h
            · exact h
            · exfalso
              have hd : ∀ v : List UInt8, dist [] v = v.length := fun v => by rw [dist_sym, dist_nil_right]
              rw [List.drop_of_length_le h, hd] at h0 h2
              apply h2
              rw [hd, List.length_tail]
              exact ⟨fun e => h0 (by rw [e]; rfl), by omega⟩
          have hkl : k < v.length := by
            rcases Nat.lt_or_ge k v.length with h | h
            · exact h
            · exfalso
              rw [List.drop_of_length_le h, dist_nil_right] at h0 h1
              apply h1
              rw [dist_nil_right, List.length_tail]
              exact ⟨fun e => h0 (by rw [e]; rfl), by omega⟩
          have he : u[i] = v[k] := by
            rw [List.drop_eq_getElem_cons hil, List.drop_eq_getElem_cons hkl] at h1 h2
            simp only [List.tail_cons] at h1 h2
            rw [dist_cons] at h1 h2
            refine Decidable.byContradiction fun e => ?_
            rw [if_neg e] at h1 h2
            rcases Nat.le_total (dist (u.drop (i + 1)) (v[k] :: v.drop (k + 1))) (dist (u[i] :: u.drop (i + 1)) (v.drop (k + 1))) with hh | hh
            · exact h1 ⟨List.cons_ne_nil _ _, by rw [Nat.min_eq_left hh]; omega⟩
            · exact h2 ⟨List.cons_ne_nil _ _, by rw [Nat.min_eq_right hh]; omega⟩
          rw [List.tail_drop, List.tail_drop] at hr
          refine inv_go u v f at_ (i + 1) (k + 1) made rest hr (by omega) (by omega) hil hkl ?_
          rw [take_more ha hil, ← List.append_assoc, hm, he, List.take_succ_eq_append_getElem hkl]
theorem inv_nil {u v : List UInt8} {at_ : Nat} {made : List UInt8} (h : Inv u v at_ made []) : made ++ u.drop at_ = v := by
  obtain ⟨f, i, k, h1, h2, h3, h4, h5, h6⟩ := h
  rcases inv_go u v f at_ i k made [] h1 h2 h3 h4 h5 h6 with ⟨_, h⟩ | ⟨j, e, r, h, _⟩
  · exact h
  · cases h
theorem inv_cons {u v : List UInt8} {at_ : Nat} {made : List UInt8} {e : Ev} {r : List Ev} (h : Inv u v at_ made (e :: r)) :
    ∃ j : Nat, e.at_ = (j : Int) ∧ at_ ≤ j ∧ j ≤ u.length ∧ e.len = 1 ∧
      ((e.kind = 4 ∧ j < u.length ∧ e.letter = 0 ∧ Inv u v (j + 1) (made ++ (u.drop at_).take (j - at_)) r) ∨ (e.kind = 5 ∧ ∃ c ∈ v, e.letter = dig c ∧ Inv u v j (made ++ (u.drop at_).take (j - at_) ++ [c]) r)) := by
  obtain ⟨f, i, k, h1, h2, h3, h4, h5, h6⟩ := h
  rcases inv_go u v f at_ i k made (e :: r) h1 h2 h3 h4 h5 h6 with ⟨h, _⟩ | ⟨j, e', r', h, hj⟩
  · cases h
  · cases h
    exact ⟨j, hj⟩
theorem inv_start (u v : List UInt8) : Inv u v 0 [] (evs (u.length + v.length + 1) u v 0) :=
  ⟨u.length + v.length + 1, 0, 0, by simp, by omega, Nat.le_refl _, Nat.zero_le _, Nat.zero_le _, by simp⟩
end Go.Proofs.Ytmajalpmbppkpaa
