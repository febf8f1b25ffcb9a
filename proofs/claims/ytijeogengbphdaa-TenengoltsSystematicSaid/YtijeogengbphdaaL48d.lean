/- The walk of the law TenengoltsSystematic. -/
import Derived.Test.YtijeogengbphdaaAwake48
import Derived.Test.YtijeogengbphdaaSyn
import Derived.Test.YtijeogengbphdaaL48b
import Derived.Test.YtijeogengbphdaaSysP
import Derived.Deep.RegionHeld3
import Derived.OpenShut
set_option linter.unusedVariables false
namespace Go.Proofs.Ytijeogengbphdaa
open Go.RowKit
set_option maxRecDepth 100000 in
set_option maxHeartbeats 4000000 in
theorem lSystematic_any (n : Int) (s : ByteArray) (at_ letter : Int) (wn : (Lit.int .u8 n).wf = true) (ws : s.size ≤ maxLen) (wa : (Lit.int .u8 at_).wf = true) (wl : (Lit.int .u8 letter).wf = true) (w : World) :
    Calls Try.prog 6 #[.int .u8 n, .string s, .int .u8 at_, .int .u8 letter] w fun e w' => e = .returned (.bool true) ∧ Below w.heap.size w w' := by
  unfold maxLen at ws
  have hat : 0 ≤ at_ ∧ at_ ≤ 255 := bounds_u8 wa
  have hlt : 0 ≤ letter ∧ letter ≤ 255 := bounds_u8 wl
  have hnn : 0 ≤ n ∧ n ≤ 255 := bounds_u8 wn
  obtain ⟨a0, rfl⟩ := Int.eq_ofNat_of_zero_le hnn.1
  obtain ⟨a1, rfl⟩ := Int.eq_ofNat_of_zero_le hat.1
  obtain ⟨a2, rfl⟩ := Int.eq_ofNat_of_zero_le hlt.1
  have ha0 : a0 ≤ 255 := by omega
  have ha1 : a1 ≤ 255 := by omega
  have ha2 : a2 ≤ 255 := by omega
  clear wa wl wn hat hlt hnn
  obtain ⟨m, hm, hm2⟩ : ∃ m : Nat, (a0 : Int) % 25 = (m : Int) ∧ m ≤ 24 := ⟨a0 % 25, by omega, by omega⟩
  have HDV := hide (show dataV (m : Int) = (((dataN m : Nat) : Int), 0) by unfold dataV; rw [if_pos (by omega)]; rfl)
  have hdn := dataN_le m
  have D0 := fun W => tData_any (m : Int) W
  simp only [HDV.out] at D0
  have D1 := hide D0
  clear D0
  have hd0 : ¬ ((dataN m : Int) < 0) := by omega
  have hd1 : ¬ ((m : Int) < (dataN m : Int)) := by omega
  by_cases hb : (s.size : Int) ≤ 24 ∧ chk 2 s.data.toList = 0
  · obtain ⟨h1, h2⟩ := hb
    have HC := hide h2
    by_cases hl : s.size = dataN m
    · have HE := hide (enc_go (show m ≤ 64 by omega) h2 (by simpa using hl))
      have HS := sys_self hm2 h2 hl
      have HI := fun k (hk : k ≤ m) c (hc : c = 48 ∨ c = 49) => hide (sys_ins hm2 h2 hl k hk c hc)
      have HD := fun k (hk : k < m) => hide (sys_del hm2 h2 hl k hk)
      have HV := hide (show synV (encB m s).data.toList = (0, 0) by unfold synV; rw [if_pos (sys_chk hm2 h2 hl), sys_synd hm2]; rfl)
      have huz := encB_size m s
      obtain ⟨u, hu⟩ : ∃ u, u = encB m s := ⟨_, rfl⟩
      rw [← hu] at HS HV huz
      obtain ⟨r, hr, hr2⟩ : ∃ r : Nat, (a2 : Int) % 2 = (r : Int) ∧ r < 2 := ⟨a2 % 2, by omega, by omega⟩
      obtain ⟨k, hk, hk2⟩ : ∃ k : Nat, (a1 : Int) % ((m : Int) + 1) = (k : Int) ∧ k ≤ m := ⟨a1 % (m + 1), by rw [Int.natCast_emod]; rfl, by have := Nat.mod_lt a1 (show 0 < m + 1 by omega); omega⟩
      have T0 := fun W => tenc_any (m : Int) s W
      simp only [HE.out] at T0
      have T0 : ∀ W, Calls Try.prog 18 #[.int .i64 (m : Int), .string s] W fun e w' => e = .returned (.tuple #[.string u, .int .i64 0]) ∧ Below W.heap.size W w' := by
        rw [hu]; exact T0
      have E1 := hide T0
      have T1 := fun W => tsyn_any u W
      simp only [HV.out] at T1
      have H1 := hide T1
      have T2 := fun W => tdec_any (m : Int) u W
      simp only [HS] at T2
      have hself : (⟨s.data.toList.toArray⟩ : ByteArray) = s := by simp
      simp only [hself] at T2
      have H2 := hide T2
      have h01 : (48 + UInt8.ofNat r = 48 ∨ 48 + UInt8.ofNat r = (49 : UInt8)) := by
        have : r = 0 ∨ r = 1 := by omega
        rcases this with rfl | rfl
        · exact .inl rfl
        · exact .inr rfl
      have T3 := fun W => tdec_any (m : Int) (insB u k (48 + UInt8.ofNat r)) W
      have e3 := (HI k hk2 _ h01).out
      rw [← hu] at e3
      simp only [e3, hself] at T3
      obtain ⟨cs, hcs⟩ : ∃ cs, cs = (⟨#[48, 49, 50, 51, 52, 53, 54, 55, 56, 57, 97, 98, 99, 100, 101, 102]⟩ : ByteArray).extract r (r + 1) := ⟨_, rfl⟩
      have hlp := lit_put u k r hr2
      have hsl2 := fun W => lit_slice r hr2 W
      rw [← hcs] at hlp hsl2
      have hcz : cs.size ≤ 1 := by rw [hcs]; simp; omega
      rw [← hlp] at T3
      have H3 := hide T3
      have HD4 := fun (hkl : k < m) => by
        have T4 := fun W => tdec_any (m : Int) (delB u k) W
        have e4 := (HD k hkl).out
        rw [← hu] at e4
        simp only [e4, hself] at T4
        unfold delB at T4
        exact hide T4
      have hss := str_self s
      have HU := hide hu
      have hlb : ((s.size : Int) != (dataN m : Int)) = false := by rw [hl]; simp
      clear hlp hcs T0 T1 T2 T3 HV HS HI HD h01 e3 hself hu h2 hl HE
      go_enter Try.func6, Try.ntmps6
      go_wp2_with (first
        | (go_at_call 16; refine (D1.out _).mono ?_; rintro e w' ⟨rfl, rfl⟩)
        | (go_at_call 14; refine (binary_t s 24 _ h1 HC.out).mono ?_; rintro e w' ⟨rfl, rfl⟩))
      refine (E1.out _).mono ?_
      rintro e w1 ⟨rfl, hB1⟩
      go_wp2_with fail
      refine (H1.out _).mono ?_
      rintro e w2 ⟨rfl, q, rfl⟩
      have hB1 := belowN hB1 q
      generalize w1.drewN q = w1 at hB1 ⊢
      have hum : ((u.size : Int) != (m : Int)) = false := by rw [huz]; simp
      have hus : u.size ≤ 24 := by omega
      have HUZ := hide huz
      clear huz
      go_wp2_with fail
      rw [hk]
      refine (H2.out _).mono ?_
      rintro e w2 ⟨rfl, hB2⟩
      have hB2 := below2 hB1 hB2
      clear hB1
      have hk3 : (0 : Int) ≤ (k : Int) := by omega
      have hk4 : (k : Int) ≤ (u.size : Int) := by have := HUZ.out; omega
      have hku : k ≤ u.size := by have := HUZ.out; omega
      have q1 : ¬ 9223372036854775807 < k + cs.size := by omega
      have q2 : ¬ 9223372036854775807 < k + cs.size + (u.size - k) := by omega
      go_wp2_with fail
      go_region_held3 (fun _ => True) (exact trivial) ((go_at_call 20; refine (H3.out _).mono ?_; rintro e w3 ⟨rfl, hB3⟩))
      clear q1 q2
      have hB23 := below2 hB2 ((Below.refl w2.heap.size w2).drew.trans hB3)
      clear hB3 hB2
      by_cases hkl : k < m
      · have H4 := HD4 hkl
        have hkz : (k : Int) < (m : Int) := by omega
        have hk5 : (k : Int) + 1 ≤ (u.size : Int) := by have := HUZ.out; omega
        clear HD4 hsl2
        go_wp2_with fail
        have q1 : IntKind.i64.wrap ((k : Int) + 1) = (k : Int) + 1 := IntWalk.i64_in _ (by omega)
        have q2 : ((k : Int) + 1).toNat = k + 1 := by omega
        have q3 : (0 : Int) ≤ (k : Int) + 1 := by omega
        have q4 : ¬ 9223372036854775807 < k + (u.size - (k + 1)) := by omega
        go_region_held3 (fun _ => True) (exact trivial) ((go_at_call 20; refine (H4.out _).mono ?_; rintro e w4 ⟨rfl, hB4⟩))
        clear q1 q2 q3 q4
        go_wp2_with (go_at_call 11; refine (awake48_any _).mono ?_; rintro e w5 ⟨rfl, hB5⟩)
        go_ret
        exact ⟨rfl, below3 hB23 ((Below.refl w3.heap.size w3).drew.trans hB4) hB5⟩
      · have hkz : ¬ (k : Int) < (m : Int) := by omega
        clear HD4 hsl2
        go_wp2_with (go_at_call 11; refine (awake48_any _).mono ?_; rintro e w5 ⟨rfl, hB5⟩)
        go_ret
        exact ⟨rfl, below2 hB23 hB5⟩
    · have hlb : ((s.size : Int) != (dataN m : Int)) = true := by rw [bne_iff_ne]; omega
      clear h2
      go_enter Try.func6, Try.ntmps6
      go_wp2_with (first
        | (go_at_call 16; refine (D1.out _).mono ?_; rintro e w' ⟨rfl, rfl⟩)
        | (go_at_call 14; refine (binary_t s 24 _ h1 HC.out).mono ?_; rintro e w' ⟨rfl, rfl⟩)
        | (go_at_call 11; refine (awake48_any _).mono ?_; rintro e w' ⟨rfl, hB⟩))
      go_ret
      exact ⟨rfl, hB⟩
  · go_enter Try.func6, Try.ntmps6
    go_wp2_with (first
      | (go_at_call 16; refine (D1.out _).mono ?_; rintro e w' ⟨rfl, rfl⟩)
      | (go_at_call 14; refine (binary_f s 24 _ hb).mono ?_; rintro e w' ⟨rfl, rfl⟩)
      | (go_at_call 11; refine (awake48_any _).mono ?_; rintro e w' ⟨rfl, hB⟩))
    go_ret
    exact ⟨rfl, hB⟩
end Go.Proofs.Ytijeogengbphdaa
