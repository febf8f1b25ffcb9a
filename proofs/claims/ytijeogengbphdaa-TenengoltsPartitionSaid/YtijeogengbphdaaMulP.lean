/- Plain: long multiplication, limb by limb. -/
import Derived.Test.YtijeogengbphdaaBigP
set_option linter.unusedVariables false
namespace Go.Proofs.Ytijeogengbphdaa
/-- m limbs: those before a are of Q, the others of P -/
def mixL (m a P Q : Nat) : List Nat := (List.range m).map fun j => if j < a then Q / 4294967296 ^ j % 4294967296 else P / 4294967296 ^ j % 4294967296
theorem mixL_len (m a P Q : Nat) : (mixL m a P Q).length = m := by simp [mixL]
theorem mixL_get {m a P Q k : Nat} (hk : k < (mixL m a P Q).length) : (mixL m a P Q)[k] = if k < a then Q / 4294967296 ^ k % 4294967296 else P / 4294967296 ^ k % 4294967296 := by simp [mixL]
theorem mixL_self (m a P : Nat) : mixL m a P P = limbs m P := by unfold mixL limbs; simp
/-- the next limb: what lies below is left alone, for the sums differ by a multiple of the limb's weight -/
theorem mixL_set {m a P Q d v : Nat} (hv : v = (Q + d * 4294967296 ^ a) / 4294967296 ^ a % 4294967296) : (mixL m a P Q).set a v = mixL m (a + 1) P (Q + d * 4294967296 ^ a) := by
  apply List.ext_getElem
  · simp [mixL]
  · intro j h1 h2
    rw [List.getElem_set, mixL_get]
    split
    · rename_i e; subst e; rw [mixL_get, if_pos (Nat.lt_succ_self _)]; exact hv
    · rename_i e
      rw [mixL_get]
      by_cases h : j < a
      · rw [if_pos h, if_pos (by omega)]
        obtain ⟨t, rfl⟩ : ∃ t, a = j + (t + 1) := ⟨a - j - 1, by omega⟩
        rw [Nat.pow_add, show d * (4294967296 ^ j * 4294967296 ^ (t + 1)) = 4294967296 ^ j * (d * 4294967296 ^ (t + 1)) by rw [Nat.mul_left_comm], Nat.add_mul_div_left _ _ (Nat.pow_pos (by decide)), Nat.pow_succ, ← Nat.mul_assoc, Nat.add_mul_mod_self_right]
      · rw [if_neg h, if_neg (by omega)]
/-- one step: the carry -/
theorem mul_carry (W P Q a d o c : Nat) (hW : 0 < W) (ho : o = P / W ^ a % W) (h : Q / W ^ a = P / W ^ a + c) :
    (Q + d * W ^ a) / W ^ a % W = (d + o + c) % W ∧ (Q + d * W ^ a) / W ^ (a + 1) = P / W ^ (a + 1) + (d + o + c) / W := by
  have e : (Q + d * W ^ a) / W ^ a = P / W ^ a + c + d := by
    rw [Nat.add_mul_div_right _ _ (Nat.pow_pos hW), h]
  rw [div_succ, div_succ, e, ho]
  generalize P / W ^ a = p
  constructor
  · rw [show p + c + d = d + c + p by omega, show d + p % W + c = d + c + p % W by omega, Nat.add_mod_mod]
  · have hp := Nat.div_add_mod p W
    have e2 : p + c + d = W * (p / W) + (d + p % W + c) := by omega
    rw [e2, Nat.mul_add_div hW]
/-- the low part of a product grows limb by limb -/
theorem low_succ (Y W k : Nat) : Y % W ^ (k + 1) = Y % W ^ k + Y / W ^ k % W * W ^ k := by
  rw [Nat.pow_succ, Nat.mod_mul, Nat.mul_comm (W ^ k) (Y / W ^ k % W)]
theorem mixL_top {m a P Q c : Nat} (hP : P < 4294967296 ^ a) (hc : c < 4294967296) (hQ : Q / 4294967296 ^ a = c) : (mixL m a P Q).set a c = limbs m Q := by
  have hQl : Q < 4294967296 ^ (a + 1) := by
    rw [Nat.pow_succ]
    have h1 := Nat.div_add_mod Q (4294967296 ^ a)
    have h2 := Nat.mod_lt Q (show 0 < 4294967296 ^ a from Nat.pow_pos (by decide))
    have h3 : 4294967296 ^ a * (Q / 4294967296 ^ a) ≤ 4294967296 ^ a * 4294967295 := Nat.mul_le_mul_left _ (by omega)
    omega
  apply List.ext_getElem
  · simp [mixL, limbs]
  · intro j h1 h2
    rw [List.getElem_set, limbs_get]
    split
    · rename_i e; subst e; rw [hQ]; exact (Nat.mod_eq_of_lt hc).symm
    · rename_i e
      rw [mixL_get]
      by_cases h : j < a
      · rw [if_pos h]
      · rw [if_neg h, Nat.div_eq_of_lt (Nat.lt_of_lt_of_le hP (Nat.pow_le_pow_right (by decide) (by omega))), Nat.div_eq_of_lt (Nat.lt_of_lt_of_le hQl (Nat.pow_le_pow_right (by decide) (by omega)))]
theorem mul_low {X Y lY : Nat} (hY : Y < 4294967296 ^ lY) (i : Nat) : X % 4294967296 ^ i * Y < 4294967296 ^ (i + lY) := by
  rw [Nat.pow_add]
  have h1 := Nat.mod_lt X (show 0 < 4294967296 ^ i from Nat.pow_pos (by decide))
  exact Nat.mul_lt_mul'' h1 hY
theorem mul_step (X Y i k : Nat) : X % 4294967296 ^ i * Y + X / 4294967296 ^ i % 4294967296 * 4294967296 ^ i * (Y % 4294967296 ^ (k + 1)) =
    X % 4294967296 ^ i * Y + X / 4294967296 ^ i % 4294967296 * 4294967296 ^ i * (Y % 4294967296 ^ k) + X / 4294967296 ^ i % 4294967296 * (Y / 4294967296 ^ k % 4294967296) * 4294967296 ^ (i + k) := by
  rw [low_succ Y 4294967296 k, Nat.mul_add, ← Nat.add_assoc, Nat.pow_add]
  congr 1
  generalize X / 4294967296 ^ i % 4294967296 = a
  generalize Y / 4294967296 ^ k % 4294967296 = b
  generalize 4294967296 ^ i = c
  generalize 4294967296 ^ k = d
  rw [Nat.mul_assoc, Nat.mul_assoc, Nat.mul_left_comm c b d]
theorem mul_row (X Y i : Nat) : X % 4294967296 ^ i * Y + X / 4294967296 ^ i % 4294967296 * 4294967296 ^ i * Y = X % 4294967296 ^ (i + 1) * Y := by
  rw [low_succ X 4294967296 i, Nat.add_mul]
end Go.Proofs.Ytijeogengbphdaa
