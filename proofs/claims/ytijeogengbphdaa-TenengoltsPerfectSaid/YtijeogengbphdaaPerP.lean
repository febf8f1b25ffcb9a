/- Plain law of TenengoltsPerfect: of the words that one insertion leads to, one has any syndrome that is asked. -/
import Derived.Test.YtijeogengbphdaaVT
import Derived.Test.YtijeogengbphdaaDelP
set_option linter.unusedVariables false
namespace Go.Proofs.Ytijeogengbphdaa
open Go.RowKit
theorem ivt {f : Nat → Nat} {t : Nat} : ∀ m, (∀ i, i < m → f (i + 1) ≤ f i + 1) → f 0 ≤ t → t ≤ f m → ∃ i, i ≤ m ∧ f i = t
  | 0, _, h0, hm => ⟨0, Nat.le_refl _, by omega⟩
  | m + 1, hs, h0, hm => by
    rcases Nat.lt_or_ge (f m) t with h | h
    · have := hs m (by omega)
      exact ⟨m + 1, Nat.le_refl _, by omega⟩
    · obtain ⟨i, hi, e⟩ := ivt m (fun i hi => hs i (by omega)) h0 h
      exact ⟨i, by omega, e⟩
theorem ones_drop (l : List UInt8) (i : Nat) (hi : i < l.length) : ones (l.drop i) = (if l[i] = 49 then 1 else 0) + ones (l.drop (i + 1)) := by
  rw [List.drop_eq_getElem_cons hi]; rfl
theorem gain_ex (l : List UInt8) (g : Nat) (hg : g ≤ l.length + 1) : ∃ i c, i ≤ l.length ∧ (c = 48 ∨ c = 49) ∧ gain (l.take i) c (l.drop i) = g := by
  rcases Nat.lt_or_ge (ones l) g with h | h
  · obtain ⟨i, hi, e⟩ := ivt (f := fun i => ones (l.drop i) + i + 1) (t := g) l.length (fun i hi => by
      have := ones_drop l i hi
      show ones (l.drop (i + 1)) + (i + 1) + 1 ≤ ones (l.drop i) + i + 1 + 1
      omega) (by simp; omega) (by simp; omega)
    refine ⟨i, 49, hi, .inr rfl, ?_⟩
    have hl : (l.take i).length = i := by rw [List.length_take]; omega
    unfold gain
    rw [if_pos rfl, hl, ← e]
    omega
  · obtain ⟨j, hj, e⟩ := ivt (f := fun j => ones (l.drop (l.length - j))) (t := g) l.length (fun j hj => by
      have := ones_drop l (l.length - (j + 1)) (by omega)
      rw [show l.length - (j + 1) + 1 = l.length - j by omega] at this
      show ones (l.drop (l.length - (j + 1))) ≤ ones (l.drop (l.length - j)) + 1
      split at this <;> omega) (by simp [ones]) (by simpa using h)
    refine ⟨l.length - j, 48, by omega, .inl rfl, ?_⟩
    unfold gain
    rw [if_neg (by decide)]
    exact e
theorem perfect_ins (l : List UInt8) (k : Nat) (hk : k ≤ l.length + 1) : ∃ i c, i ≤ l.length ∧ (c = 48 ∨ c = 49) ∧ synd (l.take i ++ c :: l.drop i) = k := by
  obtain ⟨r, hr⟩ : ∃ r, r = sumS l 0 % (l.length + 2) := ⟨_, rfl⟩
  have hr2 : r < l.length + 2 := by rw [hr]; exact Nat.mod_lt _ (by omega)
  obtain ⟨i, c, hi, hc, e⟩ := gain_ex l (if r ≤ k then k - r else k + (l.length + 2) - r) (by split <;> omega)
  refine ⟨i, c, hi, hc, ?_⟩
  unfold synd
  rw [sumS_put, List.take_append_drop, e]
  have hlen : (l.take i ++ c :: l.drop i).length = l.length + 1 := by simp; omega
  rw [hlen, Nat.add_mod, ← hr]
  split
  · rw [Nat.mod_eq_of_lt (a := k - r) (by omega), Nat.mod_eq_of_lt (by omega)]; omega
  · rw [Nat.mod_eq_of_lt (a := k + (l.length + 2) - r) (by omega), show r + (k + (l.length + 2) - r) = k + (l.length + 2) by omega, Nat.add_mod_right, Nat.mod_eq_of_lt (by omega)]
theorem perfect (s : ByteArray) (hs : s.size ≤ 60) (hc : chk 2 s.data.toList = 0) (k : Nat) (hk : k ≤ s.size + 1) :
    ∃ x, corr ((s.size : Int) + 1) (k : Int) s = (x, 0) ∧ x.size = s.size + 1 ∧ chk 2 x.data.toList = 0 ∧ synd x.data.toList = k ∧ s.data.toList ∈ dels x x.size := by
  obtain ⟨hb, _⟩ := bin_of_chk hc
  obtain ⟨i, c, hi, hcc, e⟩ := perfect_ins s.data.toList k (by rw [size_data]; exact hk)
  rw [size_data] at hi
  have hsz := size_insB_eq s i c hi
  have hbx := bin_ins (k := i) hb hcc
  have hcx : chk 2 (insB s i c).data.toList = 0 := chk_of_bin hbx (by rw [size_data, hsz]; omega)
  have hself : delB (insB s i c) i = s := by
    apply ext_data
    rw [delB_data, insB_data]
    have e1 : (List.take i s.data.toList).length = i := by rw [List.length_take, size_data]; omega
    rw [List.take_append_of_le_length (by omega), List.take_of_length_le (by omega), List.drop_append, List.drop_of_length_le (by omega), e1]
    simp
  have hsy : synd (insB s i c).data.toList = k := by rw [insB_data]; exact e
  have hcd := corr_del (insB s i c) (by omega) hcx i (by omega)
  rw [hself, hsy, hsz] at hcd
  refine ⟨insB s i c, ?_, hsz, hcx, hsy, dels_mem.2 ⟨i, by rw [size_data]; omega, ?_⟩⟩
  · rw [show ((s.size : Int) + 1) = ((s.size + 1 : Nat) : Int) by omega]; exact hcd
  · have h := delB_list (insB s i c) i
    rw [hself] at h
    exact h
end Go.Proofs.Ytijeogengbphdaa
