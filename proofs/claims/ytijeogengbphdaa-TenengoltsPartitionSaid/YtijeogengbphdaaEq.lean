/- Contract of slices.Equal at lists of strings: any two lists. -/
import Derived.Test.YtijeogengbphdaaStrs
set_option linter.unusedVariables false
namespace Go.Proofs.Ytijeogengbphdaa
open Go.RowKit
/-- the slice value v reads as the strings xs -/
def RdS (w : World) (v : Value) (xs : List ByteArray) : Prop :=
  (xs = [] ∧ ∃ A c, v = .slice A 0 c) ∨ ∃ g c, v = .slice (some ⟨g, 0, none⟩) xs.length c ∧ ∀ k (hk : k < xs.length), w.cell? ⟨g, k, none⟩ = some (.string xs[k])
theorem Strs.rd {w : World} {B : Nat} {v : Value} {xs : List ByteArray} (h : Strs w B v xs) : RdS w v xs := by
  by_cases hp : 0 < xs.length
  · obtain ⟨g, cap, rfl, _, _⟩ := h.form hp
    exact .inr ⟨g, cap, rfl, fun k hk => h.cell hk⟩
  · have : xs = [] := List.eq_nil_of_length_eq_zero (by omega)
    subst this
    obtain ⟨A, c, rfl⟩ := h.shape
    exact .inl ⟨rfl, A, c, rfl⟩
set_option maxRecDepth 100000 in
set_option maxHeartbeats 400000 in
theorem equal_go (xs ys : List ByteArray) (g g' c c' : Nat) (w : World) (hl : xs.length = ys.length) (hb : xs.length ≤ 4294967296)
    (h1 : ∀ k (hk : k < xs.length), w.cell? ⟨g, k, none⟩ = some (.string xs[k])) (h2 : ∀ k (hk : k < ys.length), w.cell? ⟨g', k, none⟩ = some (.string ys[k])) :
    Calls Try.prog 29 #[.slice (some ⟨g, 0, none⟩) xs.length c, .slice (some ⟨g', 0, none⟩) xs.length c'] w fun e w' => e = .returned (.bool (decide (xs = ys))) ∧ ∃ q, w' = w.drewN q := by
  have H1 := hide h1
  have H2 := hide h2
  have HL := hide hl
  clear h1 h2 hl
  have hn : (((xs.length : Int)) != (xs.length : Int)) = false := by simp
  go_enter Try.func29, Try.ntmps29
  go_wp2
  go_loopw [13] (fun i wr => ∃ k q : Nat, k ≤ xs.length ∧ i = .int .i64 k ∧ Hid (∀ j (hj : j < xs.length) (hj2 : j < ys.length), j < k → xs[j] = ys[j]) ∧ wr = w.drewN q) (fun i _ => xs.length - (intOf i).toNat)
  case atStart => exact ⟨0, 0, Nat.zero_le _, rfl, hide fun j _ _ h => absurd h (by omega), rfl⟩
  case round =>
    obtain ⟨k, q, hk, rfl, hsame, rfl⟩ := hrel
    by_cases hlt : k < xs.length
    · have hlt2 : k < ys.length := by have := HL.out; omega
      have c1 := H1.out k hlt
      have c2 := H2.out k hlt2
      obtain ⟨a, ha⟩ : ∃ a, a = xs[k] := ⟨_, rfl⟩
      obtain ⟨b, hb⟩ : ∃ b, b = ys[k] := ⟨_, rfl⟩
      rw [← ha] at c1
      rw [← hb] at c2
      have HA := hide ha
      have HBB := hide hb
      clear ha hb
      have hk0 : (0 : Int) ≤ (k : Int) := by omega
      have hk1 : (k : Int) < (xs.length : Int) := by omega
      go_wp2_with fail
      go_quiet (fail)
      by_cases hab : a = b
      · have hbb : (a.toList == b.toList) = true := by rw [hab]; simp
        rw [hbb]
        have HAB := hide hab
        clear hbb hab c1 c2
        go_wp2
        go_roundw
        case rel =>
          refine ⟨k + 1, q + nq, by omega, by go_num, hide fun j hj hj2 hjk => ?_, by simp⟩
          by_cases e : j < k
          · exact hsame.out j hj hj2 e
          · obtain rfl : j = k := by omega
            rw [← HA.out, ← HBB.out]; exact HAB.out
        case measure => simp [intOf]; omega
      · have hbb : (a.toList == b.toList) = false := by
          rw [beq_eq_false_iff_ne]
          intro e
          rw [ByteArray.toList_eq, ByteArray.toList_eq] at e
          exact hab (ByteArray.ext (Array.toList_inj.1 e))
        rw [hbb]
        have HAB := hide hab
        clear hbb hab c1 c2
        go_wp2
        go_ret
        refine ⟨?_, q + nq, by simp⟩
        have hne : decide (xs = ys) = false := by
          rw [decide_eq_false_iff_not]
          intro e
          subst e
          exact HAB.out (by rw [HA.out, HBB.out])
        rw [hne]; rfl
    · obtain rfl : k = xs.length := by omega
      go_wp2
      go_ret
      refine ⟨?_, q, rfl⟩
      have he : decide (xs = ys) = true := by
        rw [decide_eq_true_iff]
        exact List.ext_getElem HL.out fun j h1 h2 => hsame.out j h1 h2 h1
      rw [he]; rfl
set_option maxRecDepth 100000 in
set_option maxHeartbeats 400000 in
theorem slEqual_any (xs ys : List ByteArray) (v v' : Value) (w : World) (h1 : RdS w v xs) (h2 : RdS w v' ys) (hb : xs.length ≤ 4294967296) (hb' : ys.length ≤ 4294967296) :
    Calls Try.prog 29 #[v, v'] w fun e w' => e = .returned (.bool (decide (xs = ys))) ∧ ∃ q, w' = w.drewN q := by
  have sh : ∀ {v : Value} {xs : List ByteArray}, RdS w v xs → ∃ A c, v = .slice A xs.length c := by
    rintro v xs (⟨rfl, A, c, rfl⟩ | ⟨g, c, rfl, _⟩)
    · exact ⟨A, c, rfl⟩
    · exact ⟨_, c, rfl⟩
  by_cases hl : xs.length = ys.length
  · by_cases hp : 0 < xs.length
    · rcases h1 with ⟨rfl, _⟩ | ⟨g, c, rfl, h1⟩
      · simp at hp
      rcases h2 with ⟨rfl, _⟩ | ⟨g', c', rfl, h2⟩
      · have h0 : xs.length = 0 := hl
        omega
      have := equal_go xs ys g g' c c' w hl hb h1 h2
      rw [← hl]
      exact this
    · obtain ⟨A, c, rfl⟩ := sh h1
      obtain ⟨A', c', rfl⟩ := sh h2
      have e1 : xs.length = 0 := by omega
      have e2 : ys.length = 0 := by omega
      have HE := hide (show decide (xs = ys) = true by rw [List.eq_nil_of_length_eq_zero e1, List.eq_nil_of_length_eq_zero e2]; rfl)
      rw [e1, e2]
      clear e1 e2 hl hp h1 h2 hb hb' sh
      go_enter Try.func29, Try.ntmps29
      go_wp2
      refine wp_loop_rounds 1 ?_
      rw [rounds_succ]
      go_wp2
      go_ret
      exact ⟨by rw [HE.out]; rfl, 0, rfl⟩
  · obtain ⟨A, c, rfl⟩ := sh h1
    obtain ⟨A', c', rfl⟩ := sh h2
    have HE := hide (show decide (xs = ys) = false by rw [decide_eq_false_iff_not]; intro e; exact hl (by rw [e]))
    have hne : ((xs.length : Int) != (ys.length : Int)) = true := by rw [bne_iff_ne]; omega
    clear hl h1 h2 sh
    go_enter Try.func29, Try.ntmps29
    go_wp2
    go_ret
    exact ⟨by rw [HE.out]; rfl, 0, rfl⟩
end Go.Proofs.Ytijeogengbphdaa
