/- groovelaw47.ascending at an ascending list; slices.Index and Contains of strings at a list that holds the string. -/
import Derived.Test.YtmajalpmbppkpaaEq
import Derived.Test.YtmajalpmbppkpaaDis
import Derived.Laws.Cover1
import Derived.Sort.Walk0
import Derived.BigQuiet
set_option linter.unusedVariables false
namespace Go.Proofs.Ytmajalpmbppkpaa
open Go.RowKit Go.Sort
set_option maxRecDepth 100000 in
set_option maxHeartbeats 1000000 in
theorem asc_t (xs : List ByteArray) (A : Option Addr) (c : Nat) (w : World) (hA : 0 < xs.length → ∃ g, A = some ⟨g, 0, none⟩ ∧ ∀ k (hk : k < xs.length), w.cell? ⟨g, k, none⟩ = some (.string xs[k])) (hb : xs.length ≤ 4294967296) (hp : xs.Pairwise (fun a b => a.data.toList < b.data.toList)) :
    Calls Try.prog 39 #[.slice A xs.length c] w fun e w' => e = .returned (.bool true) ∧ ∃ q, w' = w.drewN q := by
  have HP := hide hp
  have HA := hide hA
  clear hp hA
  go_enter Try.func39, Try.ntmps39
  go_wp2
  go_loopw [3] (fun i wr => ∃ k q : Nat, 1 ≤ k ∧ i = .int .i64 k ∧ k ≤ xs.length + 1 ∧ wr = w.drewN q) (fun i _ => xs.length + 1 - (intOf i).toNat)
  case atStart => exact ⟨1, 0, Nat.le_refl _, rfl, by omega, rfl⟩
  case round =>
    obtain ⟨k, q, hk1, rfl, hkl, rfl⟩ := hrel
    by_cases hlt : k < xs.length
    · obtain ⟨g, rfl, hcell⟩ := HA.out (by omega)
      obtain ⟨p, hpk⟩ : ∃ p, p = k - 1 := ⟨_, rfl⟩
      have hpl : p < xs.length := by omega
      have c1 := hcell k hlt
      have c2 := hcell p hpl
      have hless : xs[p].data.toList < xs[k].data.toList := List.pairwise_iff_getElem.1 HP.out p k hpl hlt (by omega)
      have hpw : IntKind.i64.wrap ((k : Int) - 1) = (p : Int) := by rw [IntWalk.i64_in _ (by omega)]; omega
      obtain ⟨a, ha⟩ : ∃ a, a = xs[k] := ⟨_, rfl⟩
      obtain ⟨b, hb2⟩ : ∃ b, b = xs[p] := ⟨_, rfl⟩
      rw [← ha] at c1 hless
      rw [← hb2] at c2 hless
      have hbl : Op.bytesLess b.toList a.toList = true := by
        rw [bytesLess_eq, decide_eq_true_iff, ByteArray.toList_eq, ByteArray.toList_eq]; exact hless
      have hk0 : (0 : Int) ≤ (k : Int) := by omega
      have hk2 : (k : Int) < (xs.length : Int) := by omega
      have hp0 : (0 : Int) ≤ (p : Int) := by omega
      have hp2 : (p : Int) < (xs.length : Int) := by omega
      have hd : decide (k < xs.length) = true := decide_eq_true hlt
      clear hcell hless ha hb2 hpk HA HP
      go_wp2_with fail
      go_quiet (fail)
      go_wp2
      go_roundw
      case rel => exact ⟨k + 1, q + nq, by omega, by go_num, by omega, by simp⟩
      case measure => simp [intOf]; omega
    · have hd : decide (k < xs.length) = false := decide_eq_false hlt
      go_wp2
      go_ret
      exact ⟨rfl, q, rfl⟩
set_option maxRecDepth 100000 in
set_option maxHeartbeats 1000000 in
theorem idx_t (xs : List ByteArray) (x : ByteArray) (g c : Nat) (w : World) (h1 : ∀ k (hk : k < xs.length), w.cell? ⟨g, k, none⟩ = some (.string xs[k])) (hb : xs.length ≤ 4294967296) (hx : x ∈ xs) :
    Calls Try.prog 75 #[.slice (some ⟨g, 0, none⟩) xs.length c, .string x] w fun e w' => (∃ z : Nat, e = .returned (.int .i64 (z : Int))) ∧ ∃ q, w' = w.drewN q := by
  have H1 := hide h1
  have HX := hide hx
  clear h1 hx
  go_enter Try.func75, Try.ntmps75
  go_wp2
  go_loopw [8] (fun i wr => ∃ k q : Nat, k ≤ xs.length ∧ i = .int .i64 k ∧ Hid (∀ j (hj : j < xs.length), j < k → xs[j] ≠ x) ∧ wr = w.drewN q) (fun i _ => xs.length - (intOf i).toNat)
  case atStart => exact ⟨0, 0, Nat.zero_le _, rfl, hide fun j _ h => absurd h (by omega), rfl⟩
  case round =>
    obtain ⟨k, q, hk, rfl, hs, rfl⟩ := hrel
    by_cases hlt : k < xs.length
    · have c1 := H1.out k hlt
      obtain ⟨a, ha⟩ : ∃ a, a = xs[k] := ⟨_, rfl⟩
      rw [← ha] at c1
      have HA := hide ha
      clear ha
      have hk0 : (0 : Int) ≤ (k : Int) := by omega
      have hk1 : (k : Int) < (xs.length : Int) := by omega
      by_cases he : a = x
      · subst he
        have hself : (a.toList == a.toList) = true := by simp
        go_wp2
        go_ret
        exact ⟨⟨k, rfl⟩, q, rfl⟩
      · have hne : (x.toList == a.toList) = false := by
          rw [beq_eq_false_iff_ne]
          intro e
          rw [ByteArray.toList_eq, ByteArray.toList_eq] at e
          exact he (ByteArray.ext (Array.toList_inj.1 e.symm))
        have HE := hide he
        clear he
        go_wp2
        go_roundw
        case rel =>
          refine ⟨k + 1, q, by omega, by go_num, hide fun j hj hjk => ?_, rfl⟩
          by_cases e : j < k
          · exact hs.out j hj e
          · obtain rfl : j = k := by omega
            rw [← HA.out]; exact HE.out
        case measure => simp [intOf]; omega
    · exfalso
      obtain ⟨j, hj, e⟩ := List.getElem_of_mem HX.out
      exact hs.out j hj (by omega) e
set_option maxRecDepth 100000 in
set_option maxHeartbeats 400000 in
theorem con_t (xs : List ByteArray) (x : ByteArray) (g c : Nat) (w : World) (h1 : ∀ k (hk : k < xs.length), w.cell? ⟨g, k, none⟩ = some (.string xs[k])) (hb : xs.length ≤ 4294967296) (hx : x ∈ xs) :
    Calls Try.prog 40 #[.slice (some ⟨g, 0, none⟩) xs.length c, .string x] w fun e w' => e = .returned (.bool true) ∧ ∃ q, w' = w.drewN q := by
  have HI := hide (idx_t xs x g c w h1 hb hx)
  clear h1 hx
  go_enter Try.func40, Try.ntmps40
  go_wp2_with fail
  refine HI.out.mono ?_
  rintro e w1 ⟨⟨z, rfl⟩, q, rfl⟩
  go_wp2
  go_ret
  exact ⟨by simp [go_sem], q, rfl⟩
end Go.Proofs.Ytmajalpmbppkpaa
