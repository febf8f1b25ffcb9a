/- groovelaw47.sub: it decides whether a word is a subsequence of another one. -/
import Derived.Test.YtmajalpmbppkpaaDis
import Derived.BigQuiet
set_option linter.unusedVariables false
namespace Go.Proofs.Ytmajalpmbppkpaa
open Go.RowKit
theorem sub_step {a b : UInt8} {s w : List UInt8} : (a :: s).Sublist (b :: w) ↔ if b = a then s.Sublist w else (a :: s).Sublist w := by
  by_cases e : b = a
  · subst e
    simp
  · rw [if_neg e]
    constructor
    · intro h
      cases h with
      | cons _ h => exact h
      | cons_cons _ h => exact absurd rfl e
    · exact fun h => h.cons _
theorem drop_get {s : ByteArray} {k : Nat} (h : k < s.size) : s.data.toList.drop k = s[k] :: s.data.toList.drop (k + 1) := by
  have : k < s.data.toList.length := by simpa using h
  rw [List.drop_eq_getElem_cons this]; rfl
set_option maxRecDepth 100000 in
set_option maxHeartbeats 1000000 in
theorem sub_any (s t : ByteArray) (hs : s.size ≤ maxLen) (ht : t.size ≤ maxLen) (w : World) :
    Calls Try.prog 27 #[.string s, .string t] w fun e w' => (∃ b, e = .returned (.bool b) ∧ (b = true ↔ s.data.toList.Sublist t.data.toList)) ∧ ∃ q, w' = w.drewN q := by
  unfold maxLen at hs ht
  go_enter Try.func27, Try.ntmps27
  go_wp2
  go_loopw [5, 6] (fun kv iv wr => ∃ k i q : Nat, k ≤ s.size ∧ i ≤ t.size ∧ kv = .int .i64 k ∧ iv = .int .i64 i ∧ Hid (s.data.toList.Sublist t.data.toList ↔ (s.data.toList.drop k).Sublist (t.data.toList.drop i)) ∧ wr = w.drewN q) (fun _ iv _ => t.size - (intOf iv).toNat)
  case atStart => exact ⟨0, 0, 0, Nat.zero_le _, Nat.zero_le _, rfl, rfl, hide (by simp), rfl⟩
  case round =>
    obtain ⟨k, i, q, hk, hi, rfl, rfl, hiff, rfl⟩ := hrel
    by_cases h1 : i < t.size
    · by_cases h2 : k < s.size
      · have i0 : (0 : Int) ≤ (i : Int) := by omega
        have i1 : (i : Int) < (t.size : Int) := by omega
        have k0 : (0 : Int) ≤ (k : Int) := by omega
        have k1 : (k : Int) < (s.size : Int) := by omega
        have hst := hide (show s.data.toList.Sublist t.data.toList ↔ (s[k] :: s.data.toList.drop (k + 1)).Sublist (t[i] :: t.data.toList.drop (i + 1)) by rw [hiff.out, drop_get h1, drop_get h2])
        by_cases he : t[i] = s[k]
        · have heb : ((t[i].toNat : Int) == (s[k].toNat : Int)) = true := by rw [he]; simp
          have HE := hide he
          clear he
          go_wp2_with fail
          go_quiet (fail)
          go_wp2
          go_roundw
          case rel =>
            refine ⟨k + 1, i + 1, q + nq, by omega, by omega, by go_num, by go_num, hide ?_, by simp⟩
            rw [hst.out, sub_step, if_pos HE.out]
          case measure => simp [intOf]; omega
        · have heb : ((t[i].toNat : Int) == (s[k].toNat : Int)) = false := by
            rw [beq_eq_false_iff_ne]; intro e; apply he
            exact UInt8.toNat_inj.1 (by omega)
          have HE := hide he
          clear he
          go_wp2_with fail
          go_quiet (fail)
          go_wp2
          go_roundw
          case rel =>
            refine ⟨k, i + 1, q + nq, by omega, by omega, rfl, by go_num, hide ?_, by simp⟩
            rw [hst.out, sub_step, if_neg HE.out, ← drop_get h2]
          case measure => simp [intOf]; omega
      · have hd : decide (k < s.size) = false := decide_eq_false h2
        have hkk : ((k : Int) == (s.size : Int)) = true := by rw [beq_iff_eq]; omega
        have HR := hide (show (true = true ↔ s.data.toList.Sublist t.data.toList) by
          rw [hiff.out, List.drop_of_length_le (l := s.data.toList) (by simp; omega)]; simp)
        clear h2
        go_wp2
        go_ret
        first | exact ⟨⟨true, rfl, HR.out⟩, q, rfl⟩ | exact ⟨.inr ⟨rfl, HR.out.1 trivial⟩, q, rfl⟩
    · have hd : decide (i < t.size) = false := decide_eq_false h1
      by_cases h2 : k < s.size
      · have hkk : ((k : Int) == (s.size : Int)) = false := by rw [beq_eq_false_iff_ne]; omega
        have HR := hide (show (false = true ↔ s.data.toList.Sublist t.data.toList) by
          rw [hiff.out, List.drop_of_length_le (l := t.data.toList) (by simp; omega), drop_get h2]; simp)
        clear h1 h2
        go_wp2
        go_ret
        exact ⟨⟨false, rfl, HR.out⟩, q, rfl⟩
      · have hkk : ((k : Int) == (s.size : Int)) = true := by rw [beq_iff_eq]; omega
        have HR := hide (show (true = true ↔ s.data.toList.Sublist t.data.toList) by
          rw [hiff.out, List.drop_of_length_le (l := s.data.toList) (by simp; omega)]; simp)
        clear h1 h2
        go_wp2
        go_ret
        first | exact ⟨⟨true, rfl, HR.out⟩, q, rfl⟩ | exact ⟨.inr ⟨rfl, HR.out.1 trivial⟩, q, rfl⟩
end Go.Proofs.Ytmajalpmbppkpaa
