/- Contracts of tenengolts.Syndrome, grooveref48.Syndrome, groovelaw48.binary: any string. -/
import Derived.Test.YtijeogengbphdaaVT
import Derived.Test.YtijeogengbphdaaBytes
set_option linter.unusedVariables false
namespace Go.Proofs.Ytijeogengbphdaa
open Go.RowKit
def synV (l : List UInt8) : Int × Int := if chk 2 l = 0 then ((synd l : Nat), 0) else (0, chk 2 l)
set_option maxRecDepth 100000 in
theorem tsyn_any (s : ByteArray) (w : World) :
    Calls Try.prog 15 #[.string s] w fun e w' => e = .returned (.tuple #[.int .i64 (synV s.data.toList).1, .int .i64 (synV s.data.toList).2]) ∧ ∃ q, w' = w.drewN q := by
  by_cases hc : chk 2 s.data.toList = 0
  · have HR := hide (show synV s.data.toList = (((synd s.data.toList : Nat) : Int), 0) by unfold synV; rw [if_pos hc])
    have hz : s.size ≤ 70000 := by have := (bin_of_chk hc).2; rw [size_data] at this; omega
    have HC := hide hc
    clear hc
    go_enter Try.func15, Try.ntmps15
    go_wp2_with (first
      | (go_at_call 40; refine (wcheck_any _ _ _).mono ?_; rintro e w' ⟨rfl, q, rfl⟩; rw [HC.out])
      | (go_at_call 42; refine (tsynd_any s _ hz).mono ?_; rintro e w' ⟨rfl, rfl⟩))
    go_ret2
    exact ⟨by rw [HR.out]; rfl, _, rfl⟩
  · have HR := hide (show synV s.data.toList = (0, chk 2 s.data.toList) by unfold synV; rw [if_neg hc])
    obtain ⟨c, hcc⟩ : ∃ c, c = chk 2 s.data.toList := ⟨_, rfl⟩
    rw [← hcc] at hc HR
    have HCC := hide hcc
    have hcb : (c != 0) = true := by simpa using hc
    clear hc hcc
    go_enter Try.func15, Try.ntmps15
    go_wp2_with (go_at_call 40; refine (wcheck_any _ _ _).mono ?_; rintro e w' ⟨rfl, q, rfl⟩; rw [← HCC.out])
    go_ret2
    exact ⟨by rw [HR.out]; rfl, _, rfl⟩
set_option maxRecDepth 100000 in
theorem rsyn_any (s : ByteArray) (w : World) :
    Calls Try.prog 22 #[.string s] w fun e w' => e = .returned (.tuple #[.int .i64 (synV s.data.toList).1, .int .i64 (synV s.data.toList).2]) ∧ w = w' := by
  by_cases hc : chk 2 s.data.toList = 0
  · have HR := hide (show synV s.data.toList = (((synd s.data.toList : Nat) : Int), 0) by unfold synV; rw [if_pos hc])
    have hz : s.size ≤ 70000 := by have := (bin_of_chk hc).2; rw [size_data] at this; omega
    have HC := hide hc
    clear hc
    go_enter Try.func22, Try.ntmps22
    go_wp2_with (first
      | (go_at_call 44; refine (rcheck_any _ _ _).mono ?_; rintro e w' ⟨rfl, rfl⟩; rw [HC.out])
      | (go_at_call 45; refine (rsynd_any s _ hz).mono ?_; rintro e w' ⟨rfl, rfl⟩))
    go_ret2
    exact ⟨by rw [HR.out]; rfl, rfl⟩
  · have HR := hide (show synV s.data.toList = (0, chk 2 s.data.toList) by unfold synV; rw [if_neg hc])
    obtain ⟨c, hcc⟩ : ∃ c, c = chk 2 s.data.toList := ⟨_, rfl⟩
    rw [← hcc] at hc HR
    have HCC := hide hcc
    have hcb : (c != 0) = true := by simpa using hc
    clear hc hcc
    go_enter Try.func22, Try.ntmps22
    go_wp2_with (go_at_call 44; refine (rcheck_any _ _ _).mono ?_; rintro e w' ⟨rfl, rfl⟩; rw [← HCC.out])
    go_ret2
    exact ⟨by rw [HR.out]; rfl, rfl⟩
theorem binary_t (s : ByteArray) (m : Int) (w : World) (h1 : (s.size : Int) ≤ m) (h2 : chk 2 s.data.toList = 0) :
    Calls Try.prog 14 #[.string s, .int .i64 m] w fun e w' => e = .returned (.bool true) ∧ w = w' := by
  have HC := hide h2
  clear h2
  go_enter Try.func14, Try.ntmps14
  go_wp2_with (go_at_call 44; refine (rcheck_any _ _ _).mono ?_; rintro e w' ⟨rfl, rfl⟩; rw [HC.out])
  go_ret
  exact ⟨by simp, rfl⟩
theorem binary_f (s : ByteArray) (m : Int) (w : World) (h : ¬ ((s.size : Int) ≤ m ∧ chk 2 s.data.toList = 0)) :
    Calls Try.prog 14 #[.string s, .int .i64 m] w fun e w' => e = .returned (.bool false) ∧ w = w' := by
  by_cases h1 : (s.size : Int) ≤ m
  · have hc : chk 2 s.data.toList ≠ 0 := fun e => h ⟨h1, e⟩
    obtain ⟨c, hcc⟩ : ∃ c, c = chk 2 s.data.toList := ⟨_, rfl⟩
    rw [← hcc] at hc
    have HCC := hide hcc
    have hcb : (c == 0) = false := by simpa using hc
    clear hc hcc h
    go_enter Try.func14, Try.ntmps14
    go_wp2_with (go_at_call 44; refine (rcheck_any _ _ _).mono ?_; rintro e w' ⟨rfl, rfl⟩; rw [← HCC.out])
    go_ret
    exact ⟨by simp, rfl⟩
  · have hd : decide ((s.size : Int) ≤ m) = false := by simpa using h1
    clear h h1
    go_enter Try.func14, Try.ntmps14
    go_wp2
    go_ret
    exact ⟨by simp, rfl⟩
end Go.Proofs.Ytijeogengbphdaa
