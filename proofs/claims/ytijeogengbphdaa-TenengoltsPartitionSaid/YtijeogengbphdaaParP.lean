/- Plain: the sizes of the codes of lengths up to 40: they add up to 2^m, none is 0, and that of the syndrome 0 is none of the smaller ones. Reckoned with one number in the place of a row (base 2^64). -/
import Derived.Test.YtijeogengbphdaaSizP
set_option linter.unusedVariables false
namespace Go.Proofs.Ytijeogengbphdaa
def stepN (m p N : Nat) : Nat := N + (N % 18446744073709551616 ^ (m + 1 - p) * 18446744073709551616 ^ p + N / 18446744073709551616 ^ (m + 1 - p))
def encN (m : Nat) : Nat → Nat
  | 0 => 1
  | i + 1 => stepN m (i + 1) (encN m i)
def dgt (N k : Nat) : Nat := N / 18446744073709551616 ^ k % 18446744073709551616
theorem dgt_rot {m p N k : Nat} (hp : p ≤ m) (hN : N < 18446744073709551616 ^ (m + 1)) (hk : k ≤ m) :
    dgt (N % 18446744073709551616 ^ (m + 1 - p) * 18446744073709551616 ^ p + N / 18446744073709551616 ^ (m + 1 - p)) k = dgt N ((k + m + 1 - p) % (m + 1)) := by
  have hH : N / 18446744073709551616 ^ (m + 1 - p) < 18446744073709551616 ^ p := by
    rw [Nat.div_lt_iff_lt_mul (Nat.pow_pos (by decide)), ← Nat.pow_add, show p + (m + 1 - p) = m + 1 by omega]; exact hN
  unfold dgt
  by_cases h : k < p
  · have e1 : (k + m + 1 - p) % (m + 1) = k + m + 1 - p := Nat.mod_eq_of_lt (by omega)
    rw [e1, show k + m + 1 - p = (m + 1 - p) + k by omega, Nat.pow_add, ← Nat.div_div_eq_div_mul]
    obtain ⟨d, rfl⟩ : ∃ d, p = k + (d + 1) := ⟨p - k - 1, by omega⟩
    generalize N / 18446744073709551616 ^ (m + 1 - (k + (d + 1))) = H
    generalize N % 18446744073709551616 ^ (m + 1 - (k + (d + 1))) = L
    rw [Nat.pow_add, show L * (18446744073709551616 ^ k * 18446744073709551616 ^ (d + 1)) = 18446744073709551616 ^ k * (L * 18446744073709551616 ^ (d + 1)) by rw [Nat.mul_left_comm], Nat.mul_add_div (Nat.pow_pos (by decide)), Nat.pow_succ, ← Nat.mul_assoc, Nat.add_comm, Nat.add_mul_mod_self_right]
  · obtain ⟨d, rfl⟩ : ∃ d, k = p + d := ⟨k - p, by omega⟩
    have e1 : (p + d + m + 1 - p) % (m + 1) = d := by
      rw [show p + d + m + 1 - p = d + (m + 1) by omega, Nat.add_mod_right, Nat.mod_eq_of_lt (by omega)]
    rw [e1, Nat.pow_add, ← Nat.div_div_eq_div_mul, Nat.mul_comm (N % _), Nat.mul_add_div (Nat.pow_pos (by decide)), Nat.div_eq_of_lt hH, Nat.add_zero]
    have := digit_mod 18446744073709551616 N (m + 1 - p) d (by decide)
    rw [if_pos (by omega)] at this
    exact this
theorem add_smallN {N R : Nat} (h : ∀ k, dgt N k + dgt R k < 18446744073709551616) : ∀ k, (N + R) / 18446744073709551616 ^ k = N / 18446744073709551616 ^ k + R / 18446744073709551616 ^ k + 0
  | 0 => by rw [Nat.pow_zero, Nat.div_one, Nat.div_one, Nat.div_one]; rfl
  | k + 1 => by
    have h1 := (add_carry 18446744073709551616 N R k 0 (by decide) (add_smallN h k)).2
    have h2 := h k
    unfold dgt at h2
    rw [Nat.div_eq_of_lt (show N / 18446744073709551616 ^ k % 18446744073709551616 + R / 18446744073709551616 ^ k % 18446744073709551616 + 0 < 18446744073709551616 by omega)] at h1
    exact h1
theorem dgt_add {N R : Nat} (h : ∀ k, dgt N k + dgt R k < 18446744073709551616) (k : Nat) : dgt (N + R) k = dgt N k + dgt R k := by
  have h1 := (add_carry 18446744073709551616 N R k 0 (by decide) (add_smallN h k)).1
  have h2 := h k
  unfold dgt at h2 ⊢
  rw [h1, Nat.add_zero]
  exact Nat.mod_eq_of_lt h2
theorem dgt_out {N k m : Nat} (hN : N < 18446744073709551616 ^ (m + 1)) (hk : ¬ k ≤ m) : dgt N k = 0 := by
  unfold dgt
  rw [Nat.div_eq_of_lt (Nat.lt_of_lt_of_le hN (Nat.pow_le_pow_right (by decide) (by omega)))]
theorem encN_ok (m : Nat) (hm : m ≤ 40) : ∀ i, i ≤ m → encN m i < 18446744073709551616 ^ (m + 1) ∧ ∀ k, k ≤ m → dgt (encN m i) k = (cnts m i).getD k 0
  | 0, _ => by
    refine ⟨Nat.one_lt_pow (by omega) (by decide), fun k hk => ?_⟩
    unfold encN cnts dgt
    cases k with
    | zero => simp
    | succ k =>
      rw [Nat.div_eq_of_lt (Nat.one_lt_pow (by omega) (by decide)), List.getD_cons_succ, List.getD_eq_getElem?_getD, List.getElem?_replicate, if_pos (by omega)]
      rfl
  | i + 1, hi => by
    obtain ⟨hN, hd⟩ := encN_ok m hm i (by omega)
    have hle := fun k => cnts_le m i k
    have h40 : 2 ^ i ≤ 1099511627776 := Nat.pow_le_pow_right (show 0 < 2 by decide) (show i ≤ 40 by omega)
    obtain ⟨R, hR⟩ : ∃ R, R = encN m i % 18446744073709551616 ^ (m + 1 - (i + 1)) * 18446744073709551616 ^ (i + 1) + encN m i / 18446744073709551616 ^ (m + 1 - (i + 1)) := ⟨_, rfl⟩
    have hRd : ∀ k, k ≤ m → dgt R k = (cnts m i).getD ((k + m + 1 - (i + 1)) % (m + 1)) 0 := fun k hk => by
      rw [hR, dgt_rot (by omega) hN hk, hd _ (by have := Nat.mod_lt (k + m + 1 - (i + 1)) (show 0 < m + 1 by omega); omega)]
    have hRl : R < 18446744073709551616 ^ (m + 1) := by
      rw [hR]
      have h1 := Nat.mod_lt (encN m i) (show 0 < 18446744073709551616 ^ (m + 1 - (i + 1)) from Nat.pow_pos (by decide))
      have h2 : encN m i / 18446744073709551616 ^ (m + 1 - (i + 1)) < 18446744073709551616 ^ (i + 1) := by
        rw [Nat.div_lt_iff_lt_mul (Nat.pow_pos (by decide)), ← Nat.pow_add, show i + 1 + (m + 1 - (i + 1)) = m + 1 by omega]; exact hN
      have h3 : (encN m i % 18446744073709551616 ^ (m + 1 - (i + 1)) + 1) * 18446744073709551616 ^ (i + 1) ≤ 18446744073709551616 ^ (m + 1 - (i + 1)) * 18446744073709551616 ^ (i + 1) := Nat.mul_le_mul_right _ h1
      rw [← Nat.pow_add, show m + 1 - (i + 1) + (i + 1) = m + 1 by omega, Nat.add_mul, Nat.one_mul] at h3
      omega
    have hs : ∀ k, dgt (encN m i) k + dgt R k < 18446744073709551616 := fun k => by
      by_cases hk : k ≤ m
      · rw [hd k hk, hRd k hk]
        have h1 := hle k
        have h2 := hle ((k + m + 1 - (i + 1)) % (m + 1))
        omega
      · rw [dgt_out hN hk, dgt_out hRl hk]; decide
    have hst : encN m (i + 1) = encN m i + R := by rw [hR]; rfl
    rw [hst]
    refine ⟨?_, fun k hk => ?_⟩
    · have h1 := add_smallN hs (m + 1)
      rw [Nat.div_eq_of_lt hN, Nat.div_eq_of_lt hRl] at h1
      exact (Nat.div_eq_zero_iff_lt (Nat.pow_pos (by decide))).1 h1
    · rw [dgt_add hs, hd k hk, hRd k hk]
      have hc : cnts m (i + 1) = (List.range (m + 1)).map fun k => (cnts m i).getD k 0 + (cnts m i).getD ((k + m + 1 - (i + 1)) % (m + 1)) 0 := rfl
      rw [hc, List.getD_eq_getElem?_getD (l := List.map _ _), List.getElem?_map, List.getElem?_range (by omega)]
      rfl
def psum (c : Nat → Nat) : Nat → Nat
  | 0 => 0
  | k + 1 => psum c k + c k
theorem psum_le (c : Nat → Nat) : ∀ {k n : Nat}, k ≤ n → psum c k ≤ psum c n
  | k, 0, h => by rw [Nat.le_zero.1 h]; exact Nat.le_refl _
  | k, n + 1, h => by
    rcases Nat.lt_or_ge k (n + 1) with h1 | h1
    · exact Nat.le_trans (psum_le c (show k ≤ n by omega)) (Nat.le_add_right _ _)
    · rw [show k = n + 1 by omega]; exact Nat.le_refl _
theorem psum_congr {c d : Nat → Nat} : ∀ {n : Nat}, (∀ k, k < n → c k = d k) → psum c n = psum d n
  | 0, _ => rfl
  | n + 1, h => by unfold psum; rw [psum_congr (fun k hk => h k (by omega)), h n (by omega)]
def chkN (m N : Nat) : Bool := psum (dgt N) (m + 1) == 2 ^ m && (List.range (m + 1)).all fun k => decide (0 < dgt N k) && decide (dgt N k ≤ dgt N 0)
theorem chk_all : ∀ m : Fin 41, chkN m.1 (encN m.1 m.1) = true := by decide +kernel
theorem sizes_ok {m : Nat} (hm : m ≤ 40) : psum (fun k => (cnts m m).getD k 0) (m + 1) = 2 ^ m ∧ ∀ k, k ≤ m → 0 < (cnts m m).getD k 0 ∧ (cnts m m).getD k 0 ≤ (cnts m m).getD 0 0 := by
  have h : chkN m (encN m m) = true := chk_all ⟨m, by omega⟩
  obtain ⟨hN, hd⟩ := encN_ok m hm m (Nat.le_refl _)
  unfold chkN at h
  rw [Bool.and_eq_true, beq_iff_eq, List.all_eq_true] at h
  refine ⟨?_, fun k hk => ?_⟩
  · rw [← h.1]
    exact psum_congr fun k hk => (hd k (by omega)).symm
  · have h2 := h.2 k (List.mem_range.2 (by omega))
    rw [Bool.and_eq_true, decide_eq_true_iff, decide_eq_true_iff] at h2
    rw [hd k hk, hd 0 (Nat.zero_le _)] at h2
    exact h2
end Go.Proofs.Ytijeogengbphdaa
