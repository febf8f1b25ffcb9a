/- slices.ContainsFunc of rows of integers with the function value of ReaderLists. -/
import Derived.Test.YtmajalpmbppkpaaRCp
set_option linter.unusedVariables false
namespace Go.Proofs.Ytmajalpmbppkpaa
open Go.RowKit
def bigD (s : List Int) : Bool := decide ((12 : Int) < (s.length : Int))
set_option maxRecDepth 100000 in
theorem listsf_any (s : List Int) (D : Option Addr) (c : Nat) (w : World) :
    Calls Try.prog 14 #[.slice D s.length c] w fun e w' => e = .returned (.bool (bigD s)) ∧ w = w' := by
  cases h : decide ((12 : Int) < (s.length : Int)) <;> (
    have HB := hide (show bigD s = _ from h)
    go_enter Try.func14, Try.ntmps14
    go_wp2
    go_ret
    exact ⟨by rw [HB.out]; rfl, rfl⟩)
set_option maxRecDepth 100000 in
set_option maxHeartbeats 1000000 in
theorem idxdf_any (xs : List (List Int)) (A : Option Addr) (c : Nat) (w : World) (hR : RowD w A xs) (hb : xs.length ≤ 4294967296) :
    Calls Try.prog 53 #[.slice A xs.length c, .func (.func 14) #[] #[]] w fun e w' => (∃ z : Int, e = .returned (.int .i64 z) ∧ decide (0 ≤ z) = xs.any bigD) ∧ w = w' := by
  have HR := hide hR
  have HF := hide (fun a D c W => listsf_any a D c W)
  clear hR
  go_enter Try.func53, Try.ntmps53
  go_wp2
  go_loopw [8] (fun i wr => ∃ k : Nat, k ≤ xs.length ∧ i = .int .i64 k ∧ Hid (∀ j (hj : j < xs.length), j < k → bigD xs[j] = false) ∧ wr = w) (fun i _ => xs.length - (intOf i).toNat)
  case atStart => exact ⟨0, Nat.zero_le _, rfl, hide fun j _ h => absurd h (by omega), rfl⟩
  case round =>
    obtain ⟨k, hk, rfl, hs, rfl⟩ := hrel
    by_cases hlt : k < xs.length
    · obtain ⟨b0, o0, rfl, hab, hcell⟩ := HR.out (by omega)
      obtain ⟨D, d, c1, _⟩ := hcell k hlt
      obtain ⟨a, ha⟩ : ∃ a, a = xs[k] := ⟨_, rfl⟩
      rw [← ha] at c1
      have HA := hide ha
      clear ha hcell
      have hk0 : (0 : Int) ≤ (k : Int) := by omega
      have hk1 : (k : Int) < (xs.length : Int) := by omega
      by_cases h6 : bigD a = true
      · have H6 := hide h6
        clear h6
        go_wp2_with (go_at_call 14; refine (HF.out a D d _).mono ?_; rintro e w1 ⟨rfl, rfl⟩; rw [H6.out])
        go_ret
        refine ⟨⟨k, rfl, ?_⟩, rfl⟩
        have : xs.any bigD = true := by
          rw [List.any_eq_true]
          exact ⟨xs[k], List.getElem_mem hlt, by rw [← HA.out, H6.out]⟩
        rw [this]; simp
      · have H6 := hide (show bigD a = false by simpa using h6)
        clear h6
        go_wp2_with (go_at_call 14; refine (HF.out a D d _).mono ?_; rintro e w1 ⟨rfl, rfl⟩; rw [H6.out])
        go_roundw
        case rel =>
          refine ⟨k + 1, by omega, by go_num, hide fun j hj hjk => ?_, by first | exact trivial | rfl⟩
          by_cases e : j < k
          · exact hs.out j hj e
          · obtain rfl : j = k := by omega
            rw [← HA.out]; exact H6.out
        case measure => simp [intOf]; omega
    · obtain rfl : k = xs.length := by omega
      go_wp2
      go_ret
      refine ⟨⟨-1, rfl, ?_⟩, rfl⟩
      have : xs.any bigD = false := by
        rw [List.any_eq_false]
        intro x hx
        obtain ⟨j, hj, rfl⟩ := List.getElem_of_mem hx
        rw [hs.out j hj hj]; simp
      rw [this]; rfl
set_option maxRecDepth 100000 in
set_option maxHeartbeats 1000000 in
theorem contdf_any (xs : List (List Int)) (A : Option Addr) (c : Nat) (w : World) (hR : RowD w A xs) (hb : xs.length ≤ 4294967296) :
    Calls Try.prog 13 #[.slice A xs.length c, .func (.func 14) #[] #[]] w fun e w' => e = .returned (.bool (xs.any bigD)) ∧ w = w' := by
  have HI := hide (idxdf_any xs A c w hR hb)
  clear hR
  go_enter Try.func13, Try.ntmps13
  go_wp2_with fail
  refine HI.out.mono ?_
  rintro e w1 ⟨⟨z, rfl, hz⟩, rfl⟩
  have HZ := hide hz
  clear hz
  go_wp2
  go_ret
  exact ⟨by rw [← HZ.out]; rfl, rfl⟩
end Go.Proofs.Ytmajalpmbppkpaa
