/- The walk of the law TenengoltsCodes. -/
import Derived.Test.YtijeogengbphdaaRDec
import Derived.Test.YtijeogengbphdaaAwake48
import Derived.Test.YtijeogengbphdaaL48b
set_option linter.unusedVariables false
namespace Go.Proofs.Ytijeogengbphdaa
open Go.RowKit
theorem lst_self (l : List UInt8) : (ByteArray.toList ⟨l.toArray⟩ == ByteArray.toList ⟨l.toArray⟩) = true := by simp
set_option maxRecDepth 100000 in
set_option maxHeartbeats 2000000 in
theorem lCodes_any (n : Int) (s : ByteArray) (wn : (Lit.int .i64 n).wf = true) (ws : s.size ≤ maxLen) (w : World) :
    Calls Try.prog 5 #[.int .i64 n, .string s] w fun e w' => e = .returned (.bool true) ∧ Below w.heap.size w w' := by
  unfold maxLen at ws
  by_cases h : (70 : Int) < (s.size : Int)
  · go_enter Try.func5, Try.ntmps5
    go_wp2_with (go_at_call 11; refine (awake48_any _).mono ?_; rintro e w' ⟨rfl, hB⟩)
    go_ret
    exact ⟨rfl, hB⟩
  · have hs : (s.size : Int) ≤ 70 := by omega
    obtain ⟨r0, e0, hr0⟩ : ∃ r e, (r, e) = dataV n := ⟨_, _, rfl⟩
    obtain ⟨r1, e1, hr1⟩ : ∃ r e, (r, e) = enc n s.data.toList := ⟨_, _, rfl⟩
    obtain ⟨r2, e2, hr2⟩ : ∃ r e, (r, e) = dec n s := ⟨_, _, rfl⟩
    have D1 := fun W => tData_any n W
    have D2 := fun W => rData_any n W
    have E1 := fun W => tenc_any n s W
    have E2 := fun W => renc_any n s W
    have C1 := fun W => tdec_any n s W
    have C2 := fun W => rdec_any n s W
    rw [← hr0] at D1 D2
    rw [← hr1] at E1 E2
    rw [← hr2] at C1 C2
    have hself1 := lst_self r1
    have hself2 := lst_self r2
    have D1 := hide D1
    have D2 := hide D2
    have E1 := hide E1
    have E2 := hide E2
    have C1 := hide C1
    have C2 := hide C2
    clear hr0 hr1 hr2
    go_enter Try.func5, Try.ntmps5
    go_wp2_with (first
      | (go_at_call 16; refine (D1.out _).mono ?_; rintro e w' ⟨rfl, rfl⟩)
      | (go_at_call 17; refine (D2.out _).mono ?_; rintro e w' ⟨rfl, rfl⟩))
    refine (E1.out _).mono ?_
    rintro e w1 ⟨rfl, hB1⟩
    go_wp2_with (go_at_call 19; refine (E2.out _).mono ?_; rintro e w' ⟨rfl, rfl⟩)
    refine (C1.out _).mono ?_
    rintro e w2 ⟨rfl, hB2⟩
    go_wp2_with fail
    refine (C2.out _).mono ?_
    rintro e w3 ⟨rfl, hB3⟩
    go_wp2_with (go_at_call 11; refine (awake48_any _).mono ?_; rintro e w4 ⟨rfl, hB4⟩)
    go_ret
    exact ⟨rfl, below2 (below3 hB1 hB2 hB3) hB4⟩
end Go.Proofs.Ytijeogengbphdaa
