/- Plain law: the greedy common subsequence (each letter the least one with which a longest one can begin). -/
import Derived.Test.YtmajalpmbppkpaaWord
import Derived.Test.YtmajalpmbppkpaaLcs
import Derived.Lib.Bytealg
set_option linter.unusedVariables false
namespace Go.Proofs.Ytmajalpmbppkpaa
open Go.RowKit
theorem idx_sub {c : UInt8} : ∀ {u s : List UInt8}, (c :: s).Sublist u → ∃ m : Nat, Lib.indexByte u c = m ∧ m < u.length ∧ s.Sublist (u.drop (m + 1))
  | [], s, h => by cases h
  | b :: u, s, h => by
    by_cases e : b = c
    · subst e
      refine ⟨0, by simp [Lib.indexByte], by simp, ?_⟩
      simpa using h
    · have h2 : (c :: s).Sublist u := by
        cases h with
        | cons _ h => exact h
        | cons_cons _ h => exact absurd rfl e
      obtain ⟨m, h3, h4, h5⟩ := idx_sub h2
      refine ⟨m + 1, ?_, by rw [List.length_cons]; omega, by simpa using h5⟩
      rw [Lib.indexByte, h3, if_neg (by simpa using e), if_neg (by rw [beq_iff_eq]; omega)]
      omega
theorem idx_back {c : UInt8} : ∀ {u : List UInt8} {m : Nat}, Lib.indexByte u c = m → ∀ s : List UInt8, s.Sublist (u.drop (m + 1)) → (c :: s).Sublist u
  | [], m, h, s, hs => by simp [Lib.indexByte] at h
  | b :: u, m, h, s, hs => by
    rw [Lib.indexByte] at h
    by_cases e : b = c
    · subst e
      simp at h
      obtain rfl : m = 0 := by omega
      simpa using hs
    · rw [if_neg (by simpa using e)] at h
      split at h
      · omega
      · rename_i h1
        have := Lib.indexByte_ge u c
        simp at h1
        obtain ⟨k, hk⟩ := Int.eq_ofNat_of_zero_le (show 0 ≤ Lib.indexByte u c by omega)
        rw [hk] at h
        obtain rfl : m = k + 1 := by omega
        refine List.Sublist.cons _ (idx_back hk s ?_)
        simpa using hs
def good (u v : List UInt8) (c : UInt8) : Bool :=
  decide (0 ≤ Lib.indexByte u c) && (decide (0 ≤ Lib.indexByte v c) && decide (lcs (u.drop ((Lib.indexByte u c).toNat + 1)) (v.drop ((Lib.indexByte v c).toNat + 1)) + 1 = lcs u v))
def com : Nat → List UInt8 → List UInt8 → List UInt8
  | 0, _, _ => []
  | f + 1, u, v => if lcs u v = 0 then [] else
    match lets.find? (good u v) with
    | some c => c :: com f (u.drop ((Lib.indexByte u c).toNat + 1)) (v.drop ((Lib.indexByte v c).toNat + 1))
    | none => []
theorem good_of {u v s : List UInt8} {c : UInt8} (hu : (c :: s).Sublist u) (hv : (c :: s).Sublist v) (hl : s.length + 1 = lcs u v) : good u v c = true := by
  obtain ⟨m, h1, h2, h3⟩ := idx_sub hu
  obtain ⟨n, h4, h5, h6⟩ := idx_sub hv
  have ha := lcs_max _ _ s h3 h6
  obtain ⟨t, t1, t2, t3⟩ := lcs_ex (u.drop (m + 1)) (v.drop (n + 1))
  have hb := lcs_max u v (c :: t) (idx_back h1 t t1) (idx_back h4 t t2)
  simp at hb
  unfold good
  rw [h1, h4]
  simp
  omega
theorem good_ex {u v : List UInt8} (hw : ∀ c ∈ u, c ∈ lets) (h : 0 < lcs u v) : ∃ c ∈ lets, good u v c = true := by
  obtain ⟨s, h1, h2, h3⟩ := lcs_ex u v
  cases s with
  | nil => simp at h3; omega
  | cons c s =>
    refine ⟨c, hw c (h1.subset (by simp)), good_of h1 h2 ?_⟩
    simpa using h3
theorem good_m {u v : List UInt8} {c : UInt8} (h : good u v c = true) : ∃ m n : Nat, Lib.indexByte u c = m ∧ Lib.indexByte v c = n ∧ m < u.length ∧ n < v.length ∧ lcs (u.drop (m + 1)) (v.drop (n + 1)) + 1 = lcs u v := by
  unfold good at h
  simp only [Bool.and_eq_true, decide_eq_true_eq] at h
  obtain ⟨h1, h2, h3⟩ := h
  obtain ⟨m, hm⟩ := Int.eq_ofNat_of_zero_le h1
  obtain ⟨n, hn⟩ := Int.eq_ofNat_of_zero_le h2
  rw [hm, hn] at h3
  have hx := idx_back hm [] (List.nil_sublist _)
  have hy := idx_back hn [] (List.nil_sublist _)
  refine ⟨m, n, hm, hn, ?_, ?_, by simpa using h3⟩
  · obtain ⟨m', h4, h5, _⟩ := idx_sub hx
    omega
  · obtain ⟨m', h4, h5, _⟩ := idx_sub hy
    omega
theorem com_zero {u v : List UInt8} (f : Nat) (h : lcs u v = 0) : com f u v = [] := by
  cases f with
  | zero => rfl
  | succ f => rw [com, if_pos h]
theorem com_step {u v : List UInt8} {c : UInt8} (f : Nat) (h : lcs u v ≠ 0) (hf : lets.find? (good u v) = some c) : com (f + 1) u v = c :: com f (u.drop ((Lib.indexByte u c).toNat + 1)) (v.drop ((Lib.indexByte v c).toNat + 1)) := by
  rw [com, if_neg h, hf]
/-- what the greedy one is -/
theorem com_len : ∀ (f : Nat) (u v : List UInt8), (∀ c ∈ u, c ∈ lets) → u.length < f → (com f u v).length = lcs u v ∧ (com f u v).Sublist u ∧ (com f u v).Sublist v
  | 0, u, v, hw, hf => by omega
  | f + 1, u, v, hw, hf => by
    by_cases h : lcs u v = 0
    · rw [com_zero _ h]; simp [h]
    · obtain ⟨c, hc⟩ : ∃ c, lets.find? (good u v) = some c := by
        obtain ⟨c, h1, h2⟩ := good_ex hw (Nat.pos_of_ne_zero h)
        rw [← Option.isSome_iff_exists, List.find?_isSome]
        exact ⟨c, h1, h2⟩
      obtain ⟨m, n, hm, hn, hml, hnl, hl⟩ := good_m (List.find?_some hc)
      rw [com_step f h hc, hm, hn]
      simp only [Int.toNat_natCast]
      obtain ⟨h1, h2, h3⟩ := com_len f (u.drop (m + 1)) (v.drop (n + 1)) (fun d hd => hw d (List.mem_of_mem_drop hd)) (by simp; omega)
      exact ⟨by rw [List.length_cons, h1]; exact hl, idx_back hm _ h2, idx_back hn _ h3⟩
theorem lets_sorted : lets.Pairwise (fun a b => a < b) := by decide
theorem find_least {p : UInt8 → Bool} {c d : UInt8} : ∀ {l : List UInt8}, l.Pairwise (fun a b => a < b) → l.find? p = some c → d ∈ l → p d = true → c ≤ d
  | [], _, h, _, _ => by simp at h
  | a :: l, hp, h, hd, hpd => by
    rw [List.find?_cons] at h
    rw [List.pairwise_cons] at hp
    cases hpa : p a with
    | true =>
      rw [hpa] at h
      cases h
      rcases List.mem_cons.1 hd with rfl | hd
      · exact UInt8.le_refl _
      · exact UInt8.le_of_lt (hp.1 d hd)
    | false =>
      rw [hpa] at h
      rcases List.mem_cons.1 hd with rfl | hd
      · rw [hpd] at hpa; cases hpa
      · exact find_least hp.2 h hd hpd
/-- no longest one is less -/
theorem com_least : ∀ (f : Nat) (u v s : List UInt8), (∀ c ∈ u, c ∈ lets) → u.length < f → s.Sublist u → s.Sublist v → s.length = lcs u v → com f u v ≤ s
  | 0, u, v, s, hw, hf, _, _, _ => by omega
  | f + 1, u, v, s, hw, hf, hu, hv, hl => by
    by_cases h : lcs u v = 0
    · rw [com_zero _ h]; exact List.nil_le s
    · cases s with
      | nil => simp at hl; omega
      | cons d s =>
        have hg := good_of hu hv (by simpa using hl)
        have hd : d ∈ lets := hw d (hu.subset (by simp))
        obtain ⟨c, hc⟩ : ∃ c, lets.find? (good u v) = some c := by
          rw [← Option.isSome_iff_exists, List.find?_isSome]
          exact ⟨d, hd, hg⟩
        have hle := find_least lets_sorted hc hd hg
        obtain ⟨m, n, hm, hn, hml, hnl, hl2⟩ := good_m (List.find?_some hc)
        rw [com_step f h hc, hm, hn]
        simp only [Int.toNat_natCast]
        rw [List.cons_le_cons_iff]
        rcases Nat.lt_or_ge c.toNat d.toNat with hlt | hge
        · exact .inl (UInt8.lt_iff_toNat_lt.2 hlt)
        · obtain rfl : c = d := UInt8.toNat_inj.1 (by have := UInt8.le_iff_toNat_le.1 hle; omega)
          refine .inr ⟨rfl, ?_⟩
          obtain ⟨m', h1, _, h3⟩ := idx_sub hu
          obtain ⟨n', h4, _, h6⟩ := idx_sub hv
          obtain rfl : m' = m := by omega
          obtain rfl : n' = n := by omega
          refine com_least f _ _ s (fun d hd => hw d (List.mem_of_mem_drop hd)) (by simp; omega) h3 h6 ?_
          simp at hl
          omega
end Go.Proofs.Ytmajalpmbppkpaa
