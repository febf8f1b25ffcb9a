/- The walk of the law TenengoltsCorrects. -/
import Derived.Test.YtijeogengbphdaaAwake48
set_option linter.unusedVariables false
namespace Go.Proofs.Ytijeogengbphdaa
open Go.RowKit
set_option maxRecDepth 100000 in
set_option maxHeartbeats 1000000 in
theorem lCorrects_any (n a : Int) (s : ByteArray) (wn : (Lit.int .i64 n).wf = true) (wa : (Lit.int .i64 a).wf = true) (ws : s.size ≤ maxLen) (w : World) :
    Calls Try.prog 3 #[.int .i64 n, .int .i64 a, .string s] w fun e w' => e = .returned (.bool true) ∧ Below w.heap.size w w' := by
  unfold maxLen at ws
  by_cases h : (70 : Int) < (s.size : Int)
  · go_enter Try.func3, Try.ntmps3
    go_wp2_with (go_at_call 11; refine (awake48_any _).mono ?_; rintro e w' ⟨rfl, hB⟩)
    go_ret
    exact ⟨rfl, hB⟩
  · have hs : (s.size : Int) ≤ 70 := by omega
    obtain ⟨r, hr⟩ : ∃ r, r = corr n a s := ⟨_, rfl⟩
    have C1 := fun W => tcor_any n a s W
    have C2 := fun W => rcor_any n a s W
    rw [← hr] at C1 C2
    have H1 := hide C1
    have H2 := hide C2
    clear C1 C2 hr
    go_enter Try.func3, Try.ntmps3
    go_wp2_with fail
    refine (H1.out _).mono ?_
    rintro e w1 ⟨rfl, hB1⟩
    go_wp2_with fail
    refine (H2.out _).mono ?_
    rintro e w2 ⟨rfl, hB2⟩
    go_wp2_with (go_at_call 11; refine (awake48_any _).mono ?_; rintro e w3 ⟨rfl, hB3⟩)
    go_ret
    exact ⟨rfl, (hB1.trans (hB2.mono hB1.size)).trans (hB3.mono (Nat.le_trans hB1.size hB2.size))⟩
end Go.Proofs.Ytijeogengbphdaa
