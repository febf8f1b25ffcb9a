/- Contracts of the small functions of tenengolts and grooveref48: syndrome, check, inside, free, data. Strings of up to 70000 bytes, positions from 1 to 70000. -/
import Derived.Test.YtijeogengbphdaaWord
import Derived.Laws.BitsAllLaws
import Derived.Laws.BitsLemmas
namespace Go.Proofs.Ytijeogengbphdaa
open Go.RowKit

/-! ### plain -/
def sumS : List UInt8 → Nat → Nat
  | [], _ => 0
  | c :: l, i => (if c = 49 then i + 1 else 0) + sumS l (i + 1)
def synd (l : List UInt8) : Nat := sumS l 0 % (l.length + 1)
theorem sumS_snoc (l : List UInt8) (c : UInt8) : ∀ i, sumS (l ++ [c]) i = sumS l i + if c = 49 then i + l.length + 1 else 0 := by
  induction l with
  | nil => intro i; simp [sumS]
  | cons d l ih => intro i; simp only [List.cons_append, sumS, ih, List.length_cons]; split <;> split <;> omega
theorem sumS_le (l : List UInt8) : ∀ i, sumS l i ≤ l.length * (i + l.length) := by
  induction l with
  | nil => intro i; simp [sumS]
  | cons d l ih =>
    intro i
    have h := ih (i + 1)
    have e : (l.length + 1) * (i + (l.length + 1)) = l.length * (i + 1 + l.length) + (i + (l.length + 1)) := by
      rw [Nat.add_mul]; congr 1 <;> (try omega); congr 1; omega
    simp only [sumS, List.length_cons]
    rw [e]
    split <;> omega
theorem sumS_take_le (s : ByteArray) (hs : s.size ≤ 70000) (k : Nat) : sumS (s.data.toList.take k) 0 ≤ 4900000000 := by
  have h := sumS_le (s.data.toList.take k) 0
  have hl : (s.data.toList.take k).length ≤ 70000 := by
    have := List.length_take_le' k s.data.toList
    have h2 : s.data.toList.length = s.size := by simp
    omega
  have h2 := Nat.mul_le_mul hl (show 0 + (s.data.toList.take k).length ≤ 70000 by omega)
  omega
theorem byte_t {c : UInt8} {n : Nat} (hn : n < 256) (h : c = UInt8.ofNat n) : ((c.toNat : Int) == (n : Int)) = true := by
  subst h; simp [UInt8.toNat_ofNat', Nat.mod_eq_of_lt hn]
theorem byte_f {c : UInt8} {n : Nat} (h : c ≠ UInt8.ofNat n) : ((c.toNat : Int) == (n : Int)) = false := by
  rw [beq_eq_false_iff_ne]; intro e; apply h
  have : c.toNat = n := by omega
  rw [← this, UInt8.ofNat_toNat]
theorem synd_eq (s : ByteArray) : ((sumS (s.data.toList.take s.size) 0 : Nat) : Int) % ((s.size : Int) + 1) = ((synd s.data.toList : Nat) : Int) := by
  unfold synd
  rw [List.take_of_length_le (by simp)]
  have : s.data.toList.length = s.size := by simp
  rw [this, Int.natCast_emod]; rfl
theorem ofInt_i64 (a : Nat) (ha : a < 9223372036854775808) : (BitVec.ofInt 64 (a : Int)).toNat = a := by
  rw [BitVec.ofInt_natCast, BitVec.toNat_ofNat]; exact Nat.mod_eq_of_lt (by omega)
theorem i64_and_nat (a b : Nat) (ha : a < 9223372036854775808) (hb : b < 9223372036854775808) : bits .and .i64 (a : Int) (b : Int) = ((a &&& b : Nat) : Int) := by
  have hx : a &&& b < 2 ^ 63 := Nat.and_lt_two_pow _ (by omega)
  show IntKind.i64.wrap ((BitVec.ofInt 64 (a : Int) &&& BitVec.ofInt 64 (b : Int)).toNat : Int) = _
  rw [BitVec.toNat_and, ofInt_i64 a ha, ofInt_i64 b hb, IntKind.wrap_i64]
  omega
theorem nat_bne (m : Nat) : (((m : Nat) : Int) != 0) = !(m == 0) := by
  cases m with
  | zero => rfl
  | succ m => simp; omega
theorem nat_beq (m : Nat) : (((m : Nat) : Int) == 0) = (m == 0) := by
  cases m with
  | zero => rfl
  | succ m => simp; omega
/-- a power of two (positions from 1 on) -/
def isPow (k : Nat) : Bool := k &&& (k - 1) == 0
def dataN : Nat → Nat
  | 0 => 0
  | n + 1 => dataN n + if isPow (n + 1) then 0 else 1
theorem dataN_le : ∀ n, dataN n ≤ n
  | 0 => Nat.le_refl _
  | n + 1 => by have := dataN_le n; unfold dataN; split <;> omega
def tck (n a : Int) : Int := if n < 0 ∨ 64 < n ∨ a < 0 ∨ n < a then 2 else 0

/-! ### walks -/
set_option maxHeartbeats 400000 in
theorem tsynd_any (s : ByteArray) (w : World) (hs : s.size ≤ 70000) :
    Calls Try.prog 42 #[.string s] w fun e w' => e = .returned (.int .i64 (synd s.data.toList)) ∧ w = w' := by
  have HB := hide (sumS_take_le s hs)
  go_enter Try.func42, Try.ntmps42
  go_wp2
  go_loop [3, 7] (fun n i => ∃ k : Nat, k ≤ s.size ∧ i = .int .i64 k ∧ n = .int .i64 (sumS (s.data.toList.take k) 0)) (fun _ i => s.size - (intOf i).toNat)
  case atStart => exact ⟨0, Nat.zero_le _, rfl, rfl⟩
  case round =>
    obtain ⟨k, hk, rfl, rfl⟩ := hrel
    have hb := HB.out k
    by_cases hlt : k < s.size
    · have hsn := sumS_snoc (s.data.toList.take k) s[k] 0
      have hl : (s.data.toList.take k).length = k := by simp; omega
      rw [hl, ← take_snoc s k hlt] at hsn
      have HS := hide hsn
      clear hsn hl
      by_cases hc : s[k] = 49
      · have ht := byte_t (n := 49) (by omega) hc
        have HC := hide hc
        clear hc
        go_wp2
        go_round
        case rel => exact ⟨k + 1, by omega, by go_num, by rw [HS.out, if_pos HC.out]; congr 1; omega⟩
        case measure => simp [intOf]; omega
      · have ht := byte_f (n := 49) hc
        have HC := hide hc
        clear hc
        go_wp2
        go_round
        case rel => exact ⟨k + 1, by omega, by go_num, by rw [HS.out, if_neg HC.out]; rfl⟩
        case measure => simp [intOf]; omega
    · obtain rfl : k = s.size := by omega
      have HS := hide (synd_eq s)
      go_wp2
      go_ret
      exact ⟨ret_int HS.out, rfl⟩

set_option maxHeartbeats 400000 in
theorem rsynd_any (s : ByteArray) (w : World) (hs : s.size ≤ 70000) :
    Calls Try.prog 45 #[.string s] w fun e w' => e = .returned (.int .i64 (synd s.data.toList)) ∧ w = w' := by
  have HB := hide (sumS_take_le s hs)
  go_enter Try.func45, Try.ntmps45
  go_wp2
  go_loop [3, 4] (fun n i => ∃ k : Nat, k ≤ s.size ∧ i = .int .i64 k ∧ n = .int .i64 (sumS (s.data.toList.take k) 0)) (fun _ i => s.size - (intOf i).toNat)
  case atStart => exact ⟨0, Nat.zero_le _, rfl, rfl⟩
  case round =>
    obtain ⟨k, hk, rfl, rfl⟩ := hrel
    have hb := HB.out k
    by_cases hlt : k < s.size
    · have hsn := sumS_snoc (s.data.toList.take k) s[k] 0
      have hl : (s.data.toList.take k).length = k := by simp; omega
      rw [hl, ← take_snoc s k hlt] at hsn
      have HS := hide hsn
      clear hsn hl
      by_cases hc : s[k] = 49
      · have ht := byte_t (n := 49) (by omega) hc
        have HC := hide hc
        clear hc
        go_wp2
        go_round
        case rel => exact ⟨k + 1, by omega, by go_num, by rw [HS.out, if_pos HC.out]; congr 1; omega⟩
        case measure => simp [intOf]; omega
      · have ht := byte_f (n := 49) hc
        have HC := hide hc
        clear hc
        go_wp2
        go_round
        case rel => exact ⟨k + 1, by omega, by go_num, by rw [HS.out, if_neg HC.out]; rfl⟩
        case measure => simp [intOf]; omega
    · obtain rfl : k = s.size := by omega
      have HS := hide (synd_eq s)
      go_wp2
      go_ret
      exact ⟨ret_int HS.out, rfl⟩

theorem tchk_any (n a : Int) (w : World) :
    Calls Try.prog 39 #[.int .i64 n, .int .i64 a] w fun e w' => e = .returned (.int .i64 (tck n a)) ∧ w = w' := by
  by_cases h : n < 0 ∨ 64 < n ∨ a < 0 ∨ n < a
  · have HC := hide (show tck n a = 2 by unfold tck; rw [if_pos h])
    by_cases h1 : n < 0
    · go_enter Try.func39, Try.ntmps39
      go_wp2
      go_ret
      exact ⟨ret_int HC.out.symm, rfl⟩
    · by_cases h2 : 64 < n
      · go_enter Try.func39, Try.ntmps39
        go_wp2
        go_ret
        exact ⟨ret_int HC.out.symm, rfl⟩
      · by_cases h3 : a < 0
        · go_enter Try.func39, Try.ntmps39
          go_wp2
          go_ret
          exact ⟨ret_int HC.out.symm, rfl⟩
        · have h4 : n < a := by omega
          go_enter Try.func39, Try.ntmps39
          go_wp2
          go_ret
          exact ⟨ret_int HC.out.symm, rfl⟩
  · have HC := hide (show tck n a = 0 by unfold tck; rw [if_neg h])
    have h1 : ¬ n < 0 := by omega
    have h2 : ¬ 64 < n := by omega
    have h3 : ¬ a < 0 := by omega
    have h4 : ¬ n < a := by omega
    clear h
    go_enter Try.func39, Try.ntmps39
    go_wp2
    go_ret
    exact ⟨ret_int HC.out.symm, rfl⟩

theorem inside_t (n a : Int) (w : World) (h : tck n a = 0) :
    Calls Try.prog 43 #[.int .i64 n, .int .i64 a] w fun e w' => e = .returned (.bool true) ∧ w = w' := by
  have h' : 0 ≤ n ∧ n ≤ 64 ∧ 0 ≤ a ∧ a ≤ n := by unfold tck at h; split at h <;> omega
  clear h
  obtain ⟨h1, h2, h3, h4⟩ := h'
  go_enter Try.func43, Try.ntmps43
  go_wp2
  go_ret
  exact ⟨by simp, rfl⟩
theorem inside_f (n a : Int) (w : World) (h : tck n a ≠ 0) :
    Calls Try.prog 43 #[.int .i64 n, .int .i64 a] w fun e w' => e = .returned (.bool false) ∧ w = w' := by
  have h' : n < 0 ∨ 64 < n ∨ a < 0 ∨ n < a := by unfold tck at h; split at h <;> omega
  clear h
  by_cases h1 : n < 0
  · go_enter Try.func43, Try.ntmps43
    go_wp2
    go_ret
    exact ⟨by simp, rfl⟩
  · by_cases h2 : 64 < n
    · go_enter Try.func43, Try.ntmps43
      go_wp2
      go_ret
      exact ⟨by simp, rfl⟩
    · by_cases h3 : a < 0
      · go_enter Try.func43, Try.ntmps43
        go_wp2
        go_ret
        exact ⟨by simp, rfl⟩
      · have h4 : n < a := by omega
        go_enter Try.func43, Try.ntmps43
        go_wp2
        go_ret
        exact ⟨by simpa using h4, rfl⟩

theorem free_any (k : Nat) (h0 : 1 ≤ k) (h1 : k ≤ 70000) (w : World) :
    Calls Try.prog 48 #[.int .i64 (k : Int)] w fun e w' => e = .returned (.bool (!isPow k)) ∧ w = w' := by
  have hb := i64_and_nat k (k - 1) (by omega) (by omega)
  have e1 : ((k - 1 : Nat) : Int) = (k : Int) - 1 := by omega
  rw [e1] at hb
  go_enter Try.func48, Try.ntmps48
  go_wp2
  go_ret
  refine ⟨?_, rfl⟩
  show Ending.returned (Value.bool (((k &&& k - 1 : Nat) : Int) != 0)) = _
  rw [nat_bne]; rfl
theorem rpow_any (k : Nat) (h0 : 1 ≤ k) (h1 : k ≤ 70000) (w : World) :
    Calls Try.prog 47 #[.int .i64 (k : Int)] w fun e w' => e = .returned (.bool (isPow k)) ∧ w = w' := by
  have hb := i64_and_nat k (k - 1) (by omega) (by omega)
  have e1 : ((k - 1 : Nat) : Int) = (k : Int) - 1 := by omega
  rw [e1] at hb
  go_enter Try.func47, Try.ntmps47
  go_wp2
  go_ret
  refine ⟨?_, rfl⟩
  show Ending.returned (Value.bool (((k &&& k - 1 : Nat) : Int) == 0)) = _
  rw [nat_beq]; rfl
theorem free_val (k : Nat) (h0 : 1 ≤ k) (h1 : k ≤ 70000) (b : Bool) (hb : isPow k = !b) (w : World) :
    Calls Try.prog 48 #[.int .i64 (k : Int)] w fun e w' => e = .returned (.bool b) ∧ w = w' :=
  (free_any k h0 h1 w).mono fun _ _ ⟨he, hw⟩ => ⟨by rw [he, hb]; simp, hw⟩
theorem rpow_val (k : Nat) (h0 : 1 ≤ k) (h1 : k ≤ 70000) (b : Bool) (hb : isPow k = b) (w : World) :
    Calls Try.prog 47 #[.int .i64 (k : Int)] w fun e w' => e = .returned (.bool b) ∧ w = w' :=
  (rpow_any k h0 h1 w).mono fun _ _ ⟨he, hw⟩ => ⟨by rw [he, hb], hw⟩

set_option maxHeartbeats 400000 in
theorem tdata_any (n : Nat) (hn : n ≤ 64) (w : World) :
    Calls Try.prog 46 #[.int .i64 (n : Int)] w fun e w' => e = .returned (.int .i64 (dataN n)) ∧ w = w' := by
  go_enter Try.func46, Try.ntmps46
  go_wp2
  go_loop [3, 6] (fun c i => ∃ k : Nat, k ≤ n ∧ i = .int .i64 k ∧ c = .int .i64 (dataN k)) (fun _ i => n - (intOf i).toNat)
  case atStart => exact ⟨0, Nat.zero_le _, rfl, rfl⟩
  case round =>
    obtain ⟨k, hk, rfl, rfl⟩ := hrel
    have hb := dataN_le k
    by_cases hlt : k < n
    · have HS := hide (show dataN (k + 1) = dataN k + if isPow (k + 1) then 0 else 1 from rfl)
      have e1 : ((k + 1 : Nat) : Int) = (k : Int) + 1 := by omega
      cases hp : isPow (k + 1)
      · have hf := fun w => free_val (k + 1) (by omega) (by omega) true (by rw [hp]; rfl) w
        rw [e1] at hf
        have HF := hide hf
        have HP := hide hp
        clear hf hp e1
        go_wp2_with (go_at_call 48; refine (HF.out _).mono ?_; rintro e w' ⟨rfl, rfl⟩)
        go_round
        case rel => exact ⟨k + 1, by omega, by go_num, by rw [HS.out, HP.out]; go_num⟩
        case measure => simp [intOf]; omega
      · have hf := fun w => free_val (k + 1) (by omega) (by omega) false (by rw [hp]; rfl) w
        rw [e1] at hf
        have HF := hide hf
        have HP := hide hp
        clear hf hp e1
        go_wp2_with (go_at_call 48; refine (HF.out _).mono ?_; rintro e w' ⟨rfl, rfl⟩)
        go_round
        case rel => exact ⟨k + 1, by omega, by go_num, by rw [HS.out, HP.out]; rfl⟩
        case measure => simp [intOf]; omega
    · obtain rfl : k = n := by omega
      go_wp2
      go_ret
      exact ⟨rfl, rfl⟩
/-- Data: the number, and the error -/
def dataV (n : Int) : Int × Int := if 0 ≤ n ∧ n ≤ 64 then ((dataN n.toNat : Nat), 0) else (0, 2)
theorem tck0 (n : Int) : tck n 0 = if 0 ≤ n ∧ n ≤ 64 then 0 else 2 := by
  unfold tck; split <;> split <;> omega
theorem tData_any (n : Int) (w : World) :
    Calls Try.prog 16 #[.int .i64 n] w fun e w' => e = .returned (.tuple #[.int .i64 (dataV n).1, .int .i64 (dataV n).2]) ∧ w = w' := by
  have ht := fun w => tchk_any n 0 w
  by_cases h : 0 ≤ n ∧ n ≤ 64
  · rw [show tck n 0 = 0 by rw [tck0, if_pos h]] at ht
    have HC := hide (show dataV n = (((dataN n.toNat : Nat) : Int), 0) by unfold dataV; rw [if_pos h])
    have HT := hide ht
    clear ht
    obtain ⟨k, rfl⟩ := Int.eq_ofNat_of_zero_le h.1
    have hk : k ≤ 64 := by omega
    go_enter Try.func16, Try.ntmps16
    go_wp2_with (first | (go_at_call 39; refine (HT.out _).mono ?_; rintro e w' ⟨rfl, rfl⟩) | (go_at_call 46; refine (tdata_any k hk _).mono ?_; rintro e w' ⟨rfl, rfl⟩))
    go_ret2
    exact ⟨by rw [HC.out]; rfl, rfl⟩
  · rw [show tck n 0 = 2 by rw [tck0, if_neg h]] at ht
    have HC := hide (show dataV n = (0, 2) by unfold dataV; rw [if_neg h])
    have HT := hide ht
    clear ht
    go_enter Try.func16, Try.ntmps16
    go_wp2_with (go_at_call 39; refine (HT.out _).mono ?_; rintro e w' ⟨rfl, rfl⟩)
    go_ret2
    exact ⟨by rw [HC.out]; rfl, rfl⟩
set_option maxHeartbeats 400000 in
theorem rData_any (n : Int) (w : World) :
    Calls Try.prog 17 #[.int .i64 n] w fun e w' => e = .returned (.tuple #[.int .i64 (dataV n).1, .int .i64 (dataV n).2]) ∧ w = w' := by
  by_cases h : 0 ≤ n ∧ n ≤ 64
  · have HC := hide (show dataV n = (((dataN n.toNat : Nat) : Int), 0) by unfold dataV; rw [if_pos h])
    obtain ⟨n, rfl⟩ := Int.eq_ofNat_of_zero_le h.1
    have hn : n ≤ 64 := by omega
    clear h
    go_enter Try.func17, Try.ntmps17
    go_wp2
    go_loop [4, 5] (fun c i => ∃ k : Nat, k ≤ n ∧ i = .int .i64 (k + 1) ∧ c = .int .i64 (dataN k)) (fun _ i => n + 1 - (intOf i).toNat)
    case atStart => exact ⟨0, Nat.zero_le _, rfl, rfl⟩
    case round =>
      obtain ⟨k, hk, rfl, rfl⟩ := hrel
      have hb := dataN_le k
      by_cases hlt : k < n
      · have HS := hide (show dataN (k + 1) = dataN k + if isPow (k + 1) then 0 else 1 from rfl)
        have e1 : ((k + 1 : Nat) : Int) = (k : Int) + 1 := by omega
        cases hp : isPow (k + 1)
        · have hf := fun w => rpow_val (k + 1) (by omega) (by omega) false hp w
          rw [e1] at hf
          have HF := hide hf
          have HP := hide hp
          clear hf hp e1
          go_wp2_with (go_at_call 47; refine (HF.out _).mono ?_; rintro e w' ⟨rfl, rfl⟩)
          go_round
          case rel => exact ⟨k + 1, by omega, by go_num, by rw [HS.out, HP.out]; go_num⟩
          case measure => simp [intOf]; omega
        · have hf := fun w => rpow_val (k + 1) (by omega) (by omega) true hp w
          rw [e1] at hf
          have HF := hide hf
          have HP := hide hp
          clear hf hp e1
          go_wp2_with (go_at_call 47; refine (HF.out _).mono ?_; rintro e w' ⟨rfl, rfl⟩)
          go_round
          case rel => exact ⟨k + 1, by omega, by go_num, by rw [HS.out, HP.out]; rfl⟩
          case measure => simp [intOf]; omega
      · obtain rfl : k = n := by omega
        go_wp2
        go_ret2
        exact ⟨by rw [HC.out]; rfl, rfl⟩
  · have HC := hide (show dataV n = (0, 2) by unfold dataV; rw [if_neg h])
    by_cases h1 : n < 0
    · go_enter Try.func17, Try.ntmps17
      go_wp2
      go_ret2
      exact ⟨by rw [HC.out]; rfl, rfl⟩
    · have h2 : 64 < n := by omega
      go_enter Try.func17, Try.ntmps17
      go_wp2
      go_ret2
      exact ⟨by rw [HC.out]; rfl, rfl⟩
end Go.Proofs.Ytijeogengbphdaa
