/- Plain: how many words have a sum (the sizes of the codes of Tenengolts). -/
import Derived.Test.YtijeogengbphdaaBigP
set_option linter.unusedVariables false
namespace Go.Proofs.Ytijeogengbphdaa
/-- how many words of the first i letters have each sum -/
def cnts (m : Nat) : Nat → List Nat
  | 0 => 1 :: List.replicate m 0
  | i + 1 => (List.range (m + 1)).map fun k => (cnts m i).getD k 0 + (cnts m i).getD ((k + m + 1 - (i + 1)) % (m + 1)) 0
theorem cnts_len (m : Nat) : ∀ i, (cnts m i).length = m + 1
  | 0 => by simp [cnts]
  | i + 1 => by simp [cnts]
theorem cnts_le (m : Nat) : ∀ i k, (cnts m i).getD k 0 ≤ 2 ^ i
  | 0, k => by
    unfold cnts
    cases k with
    | zero => simp
    | succ k => rw [List.getD_cons_succ, List.getD_eq_getElem?_getD, List.getElem?_replicate]; split <;> simp
  | i + 1, k => by
    unfold cnts
    rw [List.getD_eq_getElem?_getD]
    by_cases hk : k < m + 1
    · rw [List.getElem?_map, List.getElem?_range hk]
      have h1 := cnts_le m i k
      have h2 := cnts_le m i ((k + m + 1 - (i + 1)) % (m + 1))
      simp only [Option.map_some, Option.getD_some]
      rw [Nat.pow_succ]
      omega
    · rw [List.getElem?_eq_none (by simp; omega)]
      exact Nat.zero_le _
/-- the new counts, when so many of the elder ones were added -/
def nxt (m p : Nat) (c : List Nat) (s k : Nat) : Nat := (if k < s then c.getD k 0 else 0) + (if (k + m + 1 - p) % (m + 1) < s then c.getD ((k + m + 1 - p) % (m + 1)) 0 else 0)
def nxtL (m p : Nat) (c : List Nat) (s : Nat) : List Nat := (List.range (m + 1)).map (nxt m p c s)
theorem nxtL_len (m p : Nat) (c : List Nat) (s : Nat) : (nxtL m p c s).length = m + 1 := by simp [nxtL]
theorem nxtL_get {m p : Nat} {c : List Nat} {s k : Nat} (hk : k < (nxtL m p c s).length) : (nxtL m p c s)[k] = nxt m p c s k := by simp [nxtL]
theorem nxtL_zero (m p : Nat) (c : List Nat) : nxtL m p c 0 = List.replicate (m + 1) 0 := by
  apply List.ext_getElem
  · simp [nxtL]
  · intro k h1 h2
    rw [nxtL_get, List.getElem_replicate]
    simp [nxt]
theorem back_at {m p s k : Nat} (hp : p ≤ m) (hs : s ≤ m) (hk : k ≤ m) : (k + m + 1 - p) % (m + 1) = s ↔ k = (s + p) % (m + 1) := by
  have e1 : (k + m + 1 - p) % (m + 1) = if p ≤ k then k - p else k + m + 1 - p := by
    split
    · rw [show k + m + 1 - p = (k - p) + (m + 1) by omega, Nat.add_mod_right, Nat.mod_eq_of_lt (by omega)]
    · rw [Nat.mod_eq_of_lt (by omega)]
  have e2 : (s + p) % (m + 1) = if s + p ≤ m then s + p else s + p - (m + 1) := by
    split
    · rw [Nat.mod_eq_of_lt (by omega)]
    · rw [show s + p = (s + p - (m + 1)) + (m + 1) by omega, Nat.add_mod_right, Nat.mod_eq_of_lt (by omega)]
      omega
  rw [e1, e2]
  split <;> split <;> omega
theorem nxt_other {m p : Nat} {c : List Nat} {s k : Nat} (hp : p ≤ m) (hs : s ≤ m) (hk : k ≤ m) (h1 : k ≠ s) (h2 : k ≠ (s + p) % (m + 1)) : nxt m p c (s + 1) k = nxt m p c s k := by
  have h3 : (k + m + 1 - p) % (m + 1) ≠ s := fun e => h2 ((back_at hp hs hk).1 e)
  unfold nxt
  generalize (k + m + 1 - p) % (m + 1) = k' at *
  have e1 : (k < s + 1) = (k < s) := propext ⟨fun h => by omega, fun h => by omega⟩
  have e2 : (k' < s + 1) = (k' < s) := propext ⟨fun h => by omega, fun h => by omega⟩
  simp only [e1, e2]
theorem step_ne {m p s : Nat} (h0 : 0 < p) (hp : p ≤ m) (hs : s ≤ m) : (s + p) % (m + 1) ≠ s := by
  intro e
  have := (back_at hp hs hs).2 e.symm
  have e1 : (s + m + 1 - p) % (m + 1) = if p ≤ s then s - p else s + m + 1 - p := by
    split
    · rw [show s + m + 1 - p = (s - p) + (m + 1) by omega, Nat.add_mod_right, Nat.mod_eq_of_lt (by omega)]
    · rw [Nat.mod_eq_of_lt (by omega)]
  rw [e1] at this
  split at this <;> omega
theorem nxt_here {m p : Nat} {c : List Nat} {s : Nat} (h0 : 0 < p) (hp : p ≤ m) (hs : s ≤ m) : nxt m p c (s + 1) s = nxt m p c s s + c.getD s 0 := by
  have h3 : (s + m + 1 - p) % (m + 1) ≠ s := fun e => step_ne h0 hp hs ((back_at hp hs hs).1 e).symm
  unfold nxt
  generalize (s + m + 1 - p) % (m + 1) = k' at *
  have e2 : (k' < s + 1) = (k' < s) := propext ⟨fun h => by omega, fun h => by omega⟩
  simp only [if_pos (Nat.lt_succ_self s), if_neg (Nat.lt_irrefl s), e2]
  omega
theorem nxt_there {m p : Nat} {c : List Nat} {s : Nat} (h0 : 0 < p) (hp : p ≤ m) (hs : s ≤ m) : nxt m p c (s + 1) ((s + p) % (m + 1)) = nxt m p c s ((s + p) % (m + 1)) + c.getD s 0 := by
  have hk : (s + p) % (m + 1) ≤ m := by have := Nat.mod_lt (s + p) (show 0 < m + 1 by omega); omega
  have h3 := (back_at hp hs hk).2 rfl
  have h4 := step_ne h0 hp hs
  unfold nxt
  rw [h3]
  generalize (s + p) % (m + 1) = t at *
  have e2 : (t < s + 1) = (t < s) := propext ⟨fun h => by omega, fun h => by omega⟩
  simp only [if_pos (Nat.lt_succ_self s), if_neg (Nat.lt_irrefl s), e2]
  omega
theorem nxtL_step {m p : Nat} {c : List Nat} {s v v' : Nat} (h0 : 0 < p) (hp : p ≤ m) (hs : s ≤ m) (hv : v = nxt m p c s s + c.getD s 0) (hv' : v' = nxt m p c s ((s + p) % (m + 1)) + c.getD s 0) :
    ((nxtL m p c s).set s v).set ((s + p) % (m + 1)) v' = nxtL m p c (s + 1) := by
  subst hv hv'
  apply List.ext_getElem
  · simp [nxtL]
  · intro k h1 h2
    have hk : k ≤ m := by rw [nxtL_len] at h2; omega
    rw [nxtL_get, List.getElem_set]
    split
    · rename_i e; subst e; exact (nxt_there h0 hp hs).symm
    · rename_i e
      rw [List.getElem_set]
      split
      · rename_i e2; subst e2; exact (nxt_here h0 hp hs).symm
      · rename_i e2
        rw [nxtL_get]
        exact (nxt_other hp hs hk (fun h => e2 h.symm) (fun h => e h.symm)).symm
theorem nxtL_all {m i : Nat} : nxtL m (i + 1) (cnts m i) (m + 1) = cnts m (i + 1) := by
  apply List.ext_getElem
  · rw [nxtL_len, cnts_len]
  · intro k h1 h2
    rw [nxtL_get]
    have hk : k < m + 1 := by rw [cnts_len] at h2; exact h2
    have hk' := Nat.mod_lt (k + m + 1 - (i + 1)) (show 0 < m + 1 by omega)
    simp only [cnts, List.getElem_map, List.getElem_range, nxt]
    rw [if_pos hk, if_pos hk']
theorem nxt_le {m p : Nat} {c : List Nat} {s k B : Nat} (h : ∀ k, c.getD k 0 ≤ B) : nxt m p c s k ≤ 2 * B := by
  unfold nxt
  have h1 := h k
  have h2 := h ((k + m + 1 - p) % (m + 1))
  split <;> split <;> omega
theorem cnt_le64 {m i k : Nat} (hi : i ≤ 64) : (cnts m i).getD k 0 ≤ 18446744073709551616 := Nat.le_trans (cnts_le m i k) (Nat.pow_le_pow_right (by decide) hi)
end Go.Proofs.Ytijeogengbphdaa
