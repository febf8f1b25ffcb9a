/- The walk of the law TenengoltsDeletion. -/
import Derived.Test.YtijeogengbphdaaAwake48
import Derived.Test.YtijeogengbphdaaSyn
import Derived.Deep.RegionHeld3
import Derived.OpenShut
set_option linter.unusedVariables false
namespace Go.Proofs.Ytijeogengbphdaa
open Go.RowKit
theorem below3 {w w1 w2 w3 : World} (h1 : Below w.heap.size w w1) (h2 : Below w1.heap.size w1 w2) (h3 : Below w2.heap.size w2 w3) : Below w.heap.size w w3 :=
  (h1.trans (h2.mono h1.size)).trans (h3.mono (Nat.le_trans h1.size h2.size))
theorem below2 {w w1 w2 : World} (h1 : Below w.heap.size w w1) (h2 : Below w1.heap.size w1 w2) : Below w.heap.size w w2 := h1.trans (h2.mono h1.size)
theorem str_self (s : ByteArray) : (s.toList == s.toList) = true := by simp
theorem lit_slice (r : Nat) (hr : r < 2) (W : World) : (Instr.slice 9 (.string ⟨#[48, 49, 50, 51, 52, 53, 54, 55, 56, 57, 97, 98, 99, 100, 101, 102]⟩) (some (.int .u8 (r : Int))) (some (.int .u8 ((r : Int) + 1))) none).run Try.prog W = .ok (.string ((⟨#[48, 49, 50, 51, 52, 53, 54, 55, 56, 57, 97, 98, 99, 100, 101, 102]⟩ : ByteArray).extract r (r + 1))) W := by
  have : r = 0 ∨ r = 1 := by omega
  rcases this with rfl | rfl
  · show _ = _; kernel_rfl
  · show _ = _; kernel_rfl
theorem lit_put (s : ByteArray) (k : Nat) (r : Nat) (hr : r < 2) :
    s.extract 0 k ++ (⟨#[48, 49, 50, 51, 52, 53, 54, 55, 56, 57, 97, 98, 99, 100, 101, 102]⟩ : ByteArray).extract r (r + 1) ++ s.extract k s.size = insB s k (48 + UInt8.ofNat r) := by
  have : r = 0 ∨ r = 1 := by omega
  rcases this with rfl | rfl <;> rfl
set_option maxRecDepth 100000 in
set_option maxHeartbeats 2000000 in
theorem lDeletion_any (s : ByteArray) (at_ letter : Int) (ws : s.size ≤ maxLen) (wa : (Lit.int .u8 at_).wf = true) (wl : (Lit.int .u8 letter).wf = true) (w : World) :
    Calls Try.prog 4 #[.string s, .int .u8 at_, .int .u8 letter] w fun e w' => e = .returned (.bool true) ∧ Below w.heap.size w w' := by
  unfold maxLen at ws
  by_cases hb : (s.size : Int) ≤ 24 ∧ chk 2 s.data.toList = 0
  · obtain ⟨h1, h2⟩ := hb
    have HC := hide h2
    have HV := hide (show synV s.data.toList = (((synd s.data.toList : Nat) : Int), 0) by unfold synV; rw [if_pos h2])
    have HS := hide (corr_self s (by omega) h2)
    have HI := fun k (hk : k ≤ s.size) c (hc : c = 48 ∨ c = 49) => hide (corr_ins s (by omega) h2 k hk c hc)
    have HD := fun k (hk : k < s.size) => hide (corr_del s (by omega) h2 k hk)
    have hsl := synd_lt s.data.toList
    rw [size_data] at hsl
    clear h2
    have hat : 0 ≤ at_ ∧ at_ ≤ 255 := bounds_u8 wa
    have hlt : 0 ≤ letter ∧ letter ≤ 255 := bounds_u8 wl
    obtain ⟨a1, rfl⟩ := Int.eq_ofNat_of_zero_le hat.1
    obtain ⟨a2, rfl⟩ := Int.eq_ofNat_of_zero_le hlt.1
    have ha1 : a1 ≤ 255 := by omega
    have ha2 : a2 ≤ 255 := by omega
    clear wa wl hat hlt
    obtain ⟨sy, hsy⟩ : ∃ sy, sy = synd s.data.toList := ⟨_, rfl⟩
    rw [← hsy] at HV HS hsl
    have HSY := hide hsy
    clear hsy
    have hself := str_self s
    obtain ⟨r, hr, hr2⟩ : ∃ r : Nat, (a2 : Int) % 2 = (r : Int) ∧ r < 2 := ⟨a2 % 2, by omega, by omega⟩
    obtain ⟨k, hk, hk2⟩ : ∃ k : Nat, (a1 : Int) % ((s.size : Int) + 1) = (k : Int) ∧ k ≤ s.size := ⟨a1 % (s.size + 1), by rw [Int.natCast_emod]; rfl, by have := Nat.mod_lt a1 (show 0 < s.size + 1 by omega); omega⟩
    have T1 := fun W => tsyn_any s W
    simp only [HV.out] at T1
    have H1 := hide T1
    have T2 := fun W => tcor_any (s.size : Int) (sy : Int) s W
    simp only [HS.out] at T2
    have H2 := hide T2
    have T3 := fun W => tcor_any (s.size : Int) (sy : Int) (insB s k (48 + UInt8.ofNat r)) W
    rw [HSY.out] at T3
    have h01 : (48 + UInt8.ofNat r = 48 ∨ 48 + UInt8.ofNat r = (49 : UInt8)) := by
      have : r = 0 ∨ r = 1 := by omega
      rcases this with rfl | rfl
      · exact .inl rfl
      · exact .inr rfl
    simp only [(HI k hk2 _ h01).out] at T3
    rw [← HSY.out] at T3
    obtain ⟨cs, hcs⟩ : ∃ cs, cs = (⟨#[48, 49, 50, 51, 52, 53, 54, 55, 56, 57, 97, 98, 99, 100, 101, 102]⟩ : ByteArray).extract r (r + 1) := ⟨_, rfl⟩
    have hlp := lit_put s k r hr2
    have hsl2 := fun W => lit_slice r hr2 W
    rw [← hcs] at hlp hsl2
    have hcz : cs.size ≤ 1 := by rw [hcs]; simp; omega
    rw [← hlp] at T3
    have H3 := hide T3
    clear hlp hcs
    clear T1 T2 T3 HV HS HI h01
    go_enter Try.func4, Try.ntmps4
    go_wp2_with (go_at_call 14; refine (binary_t s 24 _ h1 HC.out).mono ?_; rintro e w' ⟨rfl, rfl⟩)
    refine (H1.out _).mono ?_
    rintro e w1 ⟨rfl, q, rfl⟩
    go_wp2_with fail
    refine (H2.out _).mono ?_
    rintro e w2 ⟨rfl, hB2⟩
    have hk3 : (0 : Int) ≤ (k : Int) := by omega
    have hk4 : (k : Int) ≤ (s.size : Int) := by omega
    go_wp2_with fail
    rw [hk]
    have q1 : ¬ 9223372036854775807 < k + cs.size := by omega
    have q2 : ¬ 9223372036854775807 < k + cs.size + (s.size - k) := by omega
    go_region_held3 (fun _ => True) (exact trivial) ((go_at_call 12; refine (H3.out _).mono ?_; rintro e w3 ⟨rfl, hB3⟩))
    clear q1 q2
    have hB0 := belowN (Below.refl w.heap.size w) q
    have hB23 := below3 hB0 hB2 ((Below.refl w2.heap.size w2).drew.trans hB3)
    clear hB0 hB2 hB3
    by_cases hkl : k < s.size
    · have T4 := fun W => tcor_any (s.size : Int) (sy : Int) (delB s k) W
      rw [HSY.out] at T4
      simp only [(HD k hkl).out] at T4
      rw [← HSY.out] at T4
      unfold delB at T4
      have H4 := hide T4
      have hkz : (k : Int) < (s.size : Int) := by omega
      have hk5 : (k : Int) + 1 ≤ (s.size : Int) := by omega
      clear T4 HD hsl2
      go_wp2_with fail
      have q1 : IntKind.i64.wrap ((k : Int) + 1) = (k : Int) + 1 := IntWalk.i64_in _ (by omega)
      have q2 : ((k : Int) + 1).toNat = k + 1 := by omega
      have q3 : (0 : Int) ≤ (k : Int) + 1 := by omega
      have q4 : ¬ 9223372036854775807 < k + (s.size - (k + 1)) := by omega
      go_region_held3 (fun _ => True) (exact trivial) ((go_at_call 12; refine (H4.out _).mono ?_; rintro e w4 ⟨rfl, hB4⟩))
      clear q1 q2 q3 q4
      go_wp2_with (go_at_call 11; refine (awake48_any _).mono ?_; rintro e w5 ⟨rfl, hB5⟩)
      go_ret
      exact ⟨rfl, below3 hB23 ((Below.refl w3.heap.size w3).drew.trans hB4) hB5⟩
    · have hkz : ¬ (k : Int) < (s.size : Int) := by omega
      clear HD hsl2
      go_wp2_with (go_at_call 11; refine (awake48_any _).mono ?_; rintro e w5 ⟨rfl, hB5⟩)
      go_ret
      exact ⟨rfl, below2 hB23 hB5⟩
  · go_enter Try.func4, Try.ntmps4
    go_wp2_with (first
      | (go_at_call 14; refine (binary_f s 24 _ hb).mono ?_; rintro e w' ⟨rfl, rfl⟩)
      | (go_at_call 11; refine (awake48_any _).mono ?_; rintro e w' ⟨rfl, hB⟩))
    go_ret
    exact ⟨rfl, hB⟩
end Go.Proofs.Ytijeogengbphdaa
