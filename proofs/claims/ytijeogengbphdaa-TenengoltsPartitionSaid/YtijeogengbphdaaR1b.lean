/- grooveref01.value, addMag: their contracts (numbers that are not negative). -/
import Derived.Test.YtijeogengbphdaaR1a
set_option linter.unusedVariables false
namespace Go.Proofs.Ytijeogengbphdaa
open Go.RowKit
set_option maxRecDepth 100000 in
set_option maxHeartbeats 2000000 in
theorem r1value_any (s : ByteArray) (N : Nat) (hs : s = ⟨(beN N).toArray⟩) (h8 : s.size < 8) (w : World) :
    Calls Try.prog 78 #[.agg #[.bool false, .string s]] w fun e w' => e = .returned (.int .i64 N) ∧ Below w.heap.size w w' := by
  have HV := hide (fun W => r1small_any s N hs h8 W)
  have HB := hide ((Below.refl w.heap.size w).alloc (Nat.le_refl _) (.cells #[.bool false, .string s] 39))
  clear hs h8
  go_enter Try.func78, Try.ntmps78
  go_wp2_with (refine (HV.out _).mono ?_; rintro e w1 ⟨rfl, rfl⟩)
  go_ret
  exact ⟨rfl, HB.out⟩
theorem zdiv {N L i : Nat} (h : N < 256 ^ L) (hi : L ≤ i) : N / 256 ^ i = 0 := Nat.div_eq_of_lt (Nat.lt_of_lt_of_le h (Nat.pow_le_pow_right (by decide) hi))
set_option maxRecDepth 100000 in
set_option maxHeartbeats 2000000 in
theorem r1addMag_any (s t : ByteArray) (X Y : Nat) (hs : s = ⟨(beN X).toArray⟩) (ht : t = ⟨(beN Y).toArray⟩) (h1 : s.size ≤ 8000) (h2 : t.size ≤ 8000) (w : World) :
    Calls Try.prog 79 #[.string s, .string t] w fun e w' => e = .returned (.string ⟨(beN (X + Y)).toArray⟩) ∧ Below w.heap.size w w' := by
  have hlX : X < 256 ^ s.size := by rw [mag_size hs]; exact blen_lt X
  have hlY : Y < 256 ^ t.size := by rw [mag_size ht]; exact blen_lt Y
  obtain ⟨n, hn⟩ : ∃ n, n = max s.size t.size + 1 := ⟨_, rfl⟩
  have hmx : max (s.size : Int) (t.size : Int) + 1 = (n : Int) := by omega
  have hmy : (if (s.size : Int) ≤ (t.size : Int) then (t.size : Int) else (s.size : Int)) + 1 = (n : Int) := by split <;> omega
  have hn7 : n ≤ 70000 := by omega
  have hns : s.size < n := by omega
  have hnt : t.size < n := by omega
  have hmk : ∀ W, (Instr.makeSlice 65 (.int .i64 (n : Int)) (.int .i64 (n : Int))).run Try.prog W = .ok (.slice (some ⟨W.heap.size, 0, none⟩) n n) (W.alloc (.cells ((beL n 0).map byt).toArray 5)) := fun W => by
    rw [beL_zero]; exact run_make_bytes n hn7 W
  have HS := hide hs
  have HT := hide ht
  have HX := hide hlX
  have HY := hide hlY
  have HN := hide hn
  clear hs ht hlX hlY hn
  rcases (show (s.size < t.size ∧ (t.size : Int) + 1 = n) ∨ (¬ s.size < t.size ∧ (s.size : Int) + 1 = n) by omega) with ⟨h, hmi⟩ | ⟨h, hmi⟩ <;> (
    go_enter Try.func79, Try.ntmps79
    go_wp2
    obtain ⟨B, hBB⟩ : ∃ B, w.heap.size = B := ⟨_, rfl⟩
    rw [hBB]
    have hW1 : Byt (w.alloc (.cells ((beL n 0).map byt).toArray 5)) B (beL n 0) := by rw [← hBB]; exact Byt.new_ w _ rfl
    have hW2 : Below B w (w.alloc (.cells ((beL n 0).map byt).toArray 5)) := by rw [← hBB]; exact (Below.refl _ w).alloc (Nat.le_refl _) _
    clear h
    go_loopw [7, 8] (fun cv iv wr => ∃ j k : Nat, iv = .int .i64 ((j : Int) + 1) ∧ cv = .int .i64 k ∧ j ≤ n ∧ Hid ((X + Y) / 256 ^ j = X / 256 ^ j + Y / 256 ^ j + k) ∧ k ≤ 1 ∧ Byt wr B (beL n ((X + Y) % 256 ^ j)) ∧ Below B w wr) (fun _ iv _ => n + 1 - (intOf iv).toNat)
    case atStart =>
      refine ⟨0, 0, rfl, rfl, Nat.zero_le _, hide (by rw [Nat.pow_zero, Nat.div_one, Nat.div_one, Nat.div_one]; rfl), by decide, ?_, hW2⟩
      rw [Nat.pow_zero, Nat.mod_one]
      exact hW1
    case round =>
      obtain ⟨j, k, rfl, rfl, hj, hK, hk1, hL, hB⟩ := hrel
      by_cases hjn : j < n
      · have hcar := add_carry 256 X Y j k (by decide) hK.out
        have hcl := hL.cell (k := n - 1 - j) (by rw [beL_len]; omega)
        have hfz := hL.free_ (n - 1 - j)
        have hni : (n : Int) - ((j : Int) + 1) = ((n - 1 - j : Nat) : Int) := by omega
        have hnl : n - 1 - j < n := by omega
        by_cases ha : j < s.size <;> by_cases hb : j < t.size
        ·
          first | (exfalso; omega) | (
            have hsI : (s.size : Int) - ((j : Int) + 1) = ((s.size - 1 - j : Nat) : Int) := by omega
            have hsl : s.size - 1 - j < s.size := by omega
            have hd : s[s.size - 1 - j].toNat = X / 256 ^ j % 256 := mag_byte HS.out ha hsl
            obtain ⟨d, hdd⟩ : ∃ d, d = X / 256 ^ j % 256 := ⟨_, rfl⟩
            rw [← hdd] at hd hcar
            have hdl : d < 256 := by rw [hdd]; exact Nat.mod_lt _ (by decide)
            clear hdd
            have htI : (t.size : Int) - ((j : Int) + 1) = ((t.size - 1 - j : Nat) : Int) := by omega
            have htl : t.size - 1 - j < t.size := by omega
            have hd2 : t[t.size - 1 - j].toNat = Y / 256 ^ j % 256 := mag_byte HT.out hb htl
            obtain ⟨d2, hdd2⟩ : ∃ d2, d2 = Y / 256 ^ j % 256 := ⟨_, rfl⟩
            rw [← hdd2] at hd2 hcar
            have hdl2 : d2 < 256 := by rw [hdd2]; exact Nat.mod_lt _ (by decide)
            clear hdd2
            have HC := hide hcar
            clear hcar hK
            go_wp2
            rw [show ((k : Int) + d + d2) % 256 = ((UInt8.ofNat ((X + Y) / 256 ^ j)).toNat : Int) by
              have h9 := HC.out.1
              have h8 := byte_val ((X + Y) / 256 ^ j)
              omega]
            have hL2 := hL.set_ (n - 1 - j) (UInt8.ofNat ((X + Y) / 256 ^ j))
            rw [beL_next hjn] at hL2
            have hB2 := hB.setCell (p := ⟨B, n - 1 - j, none⟩) (Nat.le_refl _) (.int .u8 ((UInt8.ofNat ((X + Y) / 256 ^ j)).toNat : Int))
            go_roundw
            case rel => exact ⟨j + 1, (d + d2 + k) / 256, by go_num, by (try simp only [Nat.zero_add]); congr 1; try omega, hjn, hide HC.out.2, by omega, hL2, hB2⟩
            case measure => simp [intOf]; omega)
        ·
          first | (exfalso; omega) | (
            have hsI : (s.size : Int) - ((j : Int) + 1) = ((s.size - 1 - j : Nat) : Int) := by omega
            have hsl : s.size - 1 - j < s.size := by omega
            have hd : s[s.size - 1 - j].toNat = X / 256 ^ j % 256 := mag_byte HS.out ha hsl
            obtain ⟨d, hdd⟩ : ∃ d, d = X / 256 ^ j % 256 := ⟨_, rfl⟩
            rw [← hdd] at hd hcar
            have hdl : d < 256 := by rw [hdd]; exact Nat.mod_lt _ (by decide)
            clear hdd
            rw [zdiv HY.out (Nat.le_of_not_lt hb), Nat.zero_mod, Nat.add_zero] at hcar
            have HC := hide hcar
            clear hcar hK
            go_wp2
            rw [show ((k : Int) + d) % 256 = ((UInt8.ofNat ((X + Y) / 256 ^ j)).toNat : Int) by
              have h9 := HC.out.1
              have h8 := byte_val ((X + Y) / 256 ^ j)
              omega]
            have hL2 := hL.set_ (n - 1 - j) (UInt8.ofNat ((X + Y) / 256 ^ j))
            rw [beL_next hjn] at hL2
            have hB2 := hB.setCell (p := ⟨B, n - 1 - j, none⟩) (Nat.le_refl _) (.int .u8 ((UInt8.ofNat ((X + Y) / 256 ^ j)).toNat : Int))
            go_roundw
            case rel => exact ⟨j + 1, (d + k) / 256, by go_num, by (try simp only [Nat.zero_add]); congr 1; try omega, hjn, hide HC.out.2, by omega, hL2, hB2⟩
            case measure => simp [intOf]; omega)
        ·
          first | (exfalso; omega) | (
            rw [zdiv HX.out (Nat.le_of_not_lt ha), Nat.zero_mod, Nat.zero_add] at hcar
            have htI : (t.size : Int) - ((j : Int) + 1) = ((t.size - 1 - j : Nat) : Int) := by omega
            have htl : t.size - 1 - j < t.size := by omega
            have hd2 : t[t.size - 1 - j].toNat = Y / 256 ^ j % 256 := mag_byte HT.out hb htl
            obtain ⟨d2, hdd2⟩ : ∃ d2, d2 = Y / 256 ^ j % 256 := ⟨_, rfl⟩
            rw [← hdd2] at hd2 hcar
            have hdl2 : d2 < 256 := by rw [hdd2]; exact Nat.mod_lt _ (by decide)
            clear hdd2
            have HC := hide hcar
            clear hcar hK
            go_wp2
            rw [show ((k : Int) + d2) % 256 = ((UInt8.ofNat ((X + Y) / 256 ^ j)).toNat : Int) by
              have h9 := HC.out.1
              have h8 := byte_val ((X + Y) / 256 ^ j)
              omega]
            have hL2 := hL.set_ (n - 1 - j) (UInt8.ofNat ((X + Y) / 256 ^ j))
            rw [beL_next hjn] at hL2
            have hB2 := hB.setCell (p := ⟨B, n - 1 - j, none⟩) (Nat.le_refl _) (.int .u8 ((UInt8.ofNat ((X + Y) / 256 ^ j)).toNat : Int))
            go_roundw
            case rel => exact ⟨j + 1, (d2 + k) / 256, by go_num, by (try simp only [Nat.zero_add]); congr 1; try omega, hjn, hide HC.out.2, by omega, hL2, hB2⟩
            case measure => simp [intOf]; omega)
        ·
          first | (exfalso; omega) | (
            rw [zdiv HX.out (Nat.le_of_not_lt ha), Nat.zero_mod, Nat.zero_add] at hcar
            rw [zdiv HY.out (Nat.le_of_not_lt hb), Nat.zero_mod, Nat.add_zero] at hcar
            have HC := hide hcar
            clear hcar hK
            go_wp2
            have hk8 : ((UInt8.ofNat ((X + Y) / 256 ^ j)).toNat : Int) = (k : Int) := by
              have h9 := HC.out.1
              have h8 := byte_val ((X + Y) / 256 ^ j)
              omega
            have hL2 := hL.set_ (n - 1 - j) (UInt8.ofNat ((X + Y) / 256 ^ j))
            rw [beL_next hjn, hk8] at hL2
            have hB2 := hB.setCell (p := ⟨B, n - 1 - j, none⟩) (Nat.le_refl _) (.int .u8 (k : Int))
            go_roundw
            case rel => exact ⟨j + 1, (0 + k) / 256, by go_num, by (try simp only [Nat.zero_add]); congr 1; try omega, hjn, hide HC.out.2, by omega, hL2, hB2⟩
            case measure => simp [intOf]; omega)
      · obtain rfl : j = n := by omega
        have hlt : X + Y < 256 ^ j := by
          have hx := HX.out
          have hy := HY.out
          have e1 := Nat.pow_le_pow_right (show 0 < 256 by decide) (show s.size ≤ j - 1 by omega)
          have e2 := Nat.pow_le_pow_right (show 0 < 256 by decide) (show t.size ≤ j - 1 by omega)
          have e3 : 256 ^ j = 256 ^ (j - 1) * 256 := by rw [← Nat.pow_succ, show (j - 1).succ = j by omega]
          omega
        rw [Nat.mod_eq_of_lt hlt] at hL
        have hcv := run_back_bytes hL (n := j) (c := j) (beL_len _ _).symm
        have HTR := hide (fun W => r1trim_any ⟨(beL j (X + Y)).toArray⟩ j (X + Y) (by simp) hlt hn7 W)
        clear hlt hK hL
        go_wp2_with (refine (HTR.out _).mono ?_; rintro e w1 ⟨rfl, rfl⟩)
        go_ret
        refine ⟨rfl, ?_⟩
        rw [hBB]
        exact hB)
end Go.Proofs.Ytijeogengbphdaa
