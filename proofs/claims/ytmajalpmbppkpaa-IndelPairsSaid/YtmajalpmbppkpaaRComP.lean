/- Plain law: what the reference's search for the least letter finds is what the greedy one takes. -/
import Derived.Test.YtmajalpmbppkpaaComP
import Derived.Test.YtmajalpmbppkpaaScr
set_option linter.unusedVariables false
namespace Go.Proofs.Ytmajalpmbppkpaa
open Go.RowKit
/-- a hit of the search at the offsets a and b -/
def hit (u v : ByteArray) (i k a b : Nat) (c : UInt8) : Prop := i ≤ a ∧ k ≤ b ∧ ∃ (ha : a < u.size) (hb : b < v.size), u[a] = c ∧ v[b] = c ∧ 1 + lcsAt u v (a + 1) (b + 1) = lcsAt u v i k
theorem drop_more {u : List UInt8} {i a : Nat} (h : i ≤ a) : (u.drop a).Sublist (u.drop i) := List.drop_sublist_drop_left u h
theorem hit_good {u v : ByteArray} {i k a b : Nat} {c : UInt8} (h : hit u v i k a b c) : good (u.data.toList.drop i) (v.data.toList.drop k) c = true := by
  obtain ⟨h1, h2, ha, hb, rfl, hv, hl⟩ := h
  have ha' : a < u.data.toList.length := by simpa using ha
  have hb' : b < v.data.toList.length := by simpa using hb
  obtain ⟨s, s1, s2, s3⟩ := lcs_ex (u.data.toList.drop (a + 1)) (v.data.toList.drop (b + 1))
  refine good_of (s := s) ?_ ?_ ?_
  · have h3 : (u[a] :: s).Sublist (u.data.toList.drop a) := by
      rw [List.drop_eq_getElem_cons ha']
      exact s1.cons_cons _
    exact h3.trans (drop_more h1)
  · have h3 : (u[a] :: s).Sublist (v.data.toList.drop b) := by
      rw [List.drop_eq_getElem_cons hb', ← show v[b] = v.data.toList[b] from rfl, hv]
      exact s2.cons_cons _
    exact h3.trans (drop_more h2)
  · unfold lcsAt at hl
    omega
theorem idx_get {c : UInt8} : ∀ {l : List UInt8} {m : Nat}, Lib.indexByte l c = m → l[m]? = some c ∧ ∀ j, j < m → l[j]? ≠ some c
  | [], m, h => by simp [Lib.indexByte] at h
  | b :: l, m, h => by
    rw [Lib.indexByte] at h
    by_cases e : b = c
    · subst e
      simp at h
      obtain rfl : m = 0 := by omega
      exact ⟨rfl, fun j hj => by omega⟩
    · rw [if_neg (by simpa using e)] at h
      split at h
      · omega
      · rename_i h1
        have hge := Lib.indexByte_ge l c
        simp at h1
        obtain ⟨k, hk⟩ := Int.eq_ofNat_of_zero_le (show 0 ≤ Lib.indexByte l c by omega)
        rw [hk] at h
        obtain rfl : m = k + 1 := by omega
        obtain ⟨h2, h3⟩ := idx_get hk
        refine ⟨by simpa using h2, fun j hj => ?_⟩
        cases j with
        | zero => simpa using e
        | succ j => simpa using h3 j (by omega)
theorem good_hit {u v : ByteArray} {i k : Nat} {c : UInt8} (h : good (u.data.toList.drop i) (v.data.toList.drop k) c = true) :
    ∃ m n : Nat, Lib.indexByte (u.data.toList.drop i) c = m ∧ Lib.indexByte (v.data.toList.drop k) c = n ∧ hit u v i k (i + m) (k + n) c := by
  obtain ⟨m, n, hm, hn, hml, hnl, hl⟩ := good_m h
  obtain ⟨g1, _⟩ := idx_get hm
  obtain ⟨g2, _⟩ := idx_get hn
  have ha : i + m < u.size := by simp at hml; omega
  have hb : k + n < v.size := by simp at hnl; omega
  refine ⟨m, n, hm, hn, by omega, by omega, ha, hb, ?_, ?_, ?_⟩
  · rw [List.getElem?_drop, List.getElem?_eq_getElem (by simpa using ha)] at g1
    exact Option.some.inj g1
  · rw [List.getElem?_drop, List.getElem?_eq_getElem (by simpa using hb)] at g2
    exact Option.some.inj g2
  · unfold lcsAt
    rw [List.drop_drop, List.drop_drop] at hl
    rw [show i + m + 1 = i + (m + 1) by omega, show k + n + 1 = k + (n + 1) by omega]
    omega
/-- the least letter that hits is the one that is taken -/
theorem find_of_hits {u v : ByteArray} {i k : Nat} {c : UInt8} (hu : ∀ d ∈ u.data.toList, d ∈ lets) (h1 : ∃ a b, hit u v i k a b c) (h2 : ∀ a b d, hit u v i k a b d → c ≤ d) :
    lets.find? (good (u.data.toList.drop i) (v.data.toList.drop k)) = some c := by
  obtain ⟨a, b, h⟩ := h1
  have hg := hit_good h
  have hc : c ∈ lets := by
    obtain ⟨_, _, ha, _, rfl, _⟩ := h
    exact hu _ (by simpa using mem_bytes u a ha)
  obtain ⟨d, hd⟩ : ∃ d, lets.find? (good (u.data.toList.drop i) (v.data.toList.drop k)) = some d := by
    rw [← Option.isSome_iff_exists, List.find?_isSome]
    exact ⟨c, hc, hg⟩
  have hdg := List.find?_some hd
  obtain ⟨m, n, _, _, hh⟩ := good_hit hdg
  have hcd := h2 _ _ _ hh
  have hdc := find_least lets_sorted hd hc hg
  have : c = d := UInt8.le_antisymm hcd hdc
  rw [hd, this]
end Go.Proofs.Ytmajalpmbppkpaa
