/- Plain: pairs and sets (Frankl, Bollobas): a triangular table of products of a low rank is small. No program in sight. -/
import Derived.Test.YtmokccidpnpimaaDoorRow
set_option linter.unusedVariables false
namespace Go.Proofs.YtmokccidpnpimaaDoor.Tri
/-! ### a triangular table of inner products -/
def dot {ι : Type} (l : List ι) (f g : ι → Int) : Int := match l with
  | [] => 0
  | x :: l => f x * g x + dot l f g
theorem dot_lin {ι : Type} (f g h : ι → Int) (a b : Int) : ∀ l : List ι, dot l f (fun y => a * g y - b * h y) = a * dot l f g - b * dot l f h
  | [] => by simp [dot]
  | x :: l => by
    simp only [dot, dot_lin f g h a b l]
    grind
theorem dot_append {ι : Type} (f g : ι → Int) (m : List ι) : ∀ l : List ι, dot (l ++ m) f g = dot l f g + dot m f g
  | [] => by simp [dot]
  | x :: l => by
    simp only [List.cons_append, dot, dot_append f g m l]
    grind
theorem least_of {P : Nat → Prop} : ∀ m, (∃ j, j < m ∧ P j) → ∃ j, j < m ∧ P j ∧ ∀ i, i < j → ¬ P i
  | 0, ⟨j, h, _⟩ => absurd h (by omega)
  | m + 1, ⟨j, h, hp⟩ => by
    by_cases e : ∃ j, j < m ∧ P j
    · obtain ⟨j, h1, h2⟩ := least_of m e
      exact ⟨j, by omega, h2⟩
    · have : j = m := by
        rcases Nat.lt_or_ge j m with h' | h'
        · exact absurd ⟨j, h', hp⟩ e
        · omega
      subst this
      exact ⟨j, h, hp, fun i hi hpi => e ⟨i, hi, hpi⟩⟩
theorem tri {ι : Type} : ∀ (l : List ι) (m : Nat) (r w : Nat → ι → Int), (∀ i, i < m → dot l (r i) (w i) ≠ 0) → (∀ i, i < m → ∀ j, j < i → dot l (r i) (w j) = 0) → m ≤ l.length
  | [], m, r, w, h1, _ => by
    rcases Nat.eq_zero_or_pos m with e | e
    · omega
    · exact absurd rfl (h1 0 e)
  | x :: l, m, r, w, h1, h2 => by
    by_cases hz : ∃ j, j < m ∧ w j x ≠ 0
    · obtain ⟨j0, hj, hw, hl⟩ := least_of m hz
      have hl0 : ∀ i, i < j0 → w i x = 0 := fun i hi => Classical.byContradiction fun e => hl i hi e
      have hsum : ∀ i j, dot l (r i) (fun y => w j0 x * w j y - w j x * w j0 y) = w j0 x * dot (x :: l) (r i) (w j) - w j x * dot (x :: l) (r i) (w j0) := fun i j => by
        rw [dot_lin]
        simp only [dot]
        grind
      have ih := tri l (m - 1) (fun i => r (if i < j0 then i else i + 1)) (fun j => fun y => w j0 x * w (if j < j0 then j else j + 1) y - w (if j < j0 then j else j + 1) x * w j0 y) (fun i hi => by
        show dot l (r (if i < j0 then i else i + 1)) (fun y => w j0 x * w (if i < j0 then i else i + 1) y - w (if i < j0 then i else i + 1) x * w j0 y) ≠ 0
        rw [hsum]
        by_cases e : i < j0
        · rw [if_pos e, hl0 i e, Int.zero_mul, Int.sub_zero]
          exact Int.mul_ne_zero hw (h1 i (by omega))
        · rw [if_neg e, h2 (i + 1) (by omega) j0 (by omega), Int.mul_zero, Int.sub_zero]
          exact Int.mul_ne_zero hw (h1 (i + 1) (by omega))) (fun i hi j hji => by
        show dot l (r (if i < j0 then i else i + 1)) (fun y => w j0 x * w (if j < j0 then j else j + 1) y - w (if j < j0 then j else j + 1) x * w j0 y) = 0
        rw [hsum]
        by_cases e : j < j0
        · rw [if_pos e, hl0 j e, Int.zero_mul, Int.sub_zero]
          by_cases e2 : i < j0
          · rw [if_pos e2, h2 i (by omega) j hji, Int.mul_zero]
          · rw [if_neg e2, h2 (i + 1) (by omega) j (by omega), Int.mul_zero]
        · rw [if_neg e, if_neg (by omega : ¬ i < j0), h2 (i + 1) (by omega) j0 (by omega), h2 (i + 1) (by omega) (j + 1) (by omega)]
          simp)
      rw [List.length_cons]
      omega
    · have hz' : ∀ j, j < m → w j x = 0 := fun j hj => Classical.byContradiction fun e => hz ⟨j, hj, e⟩
      have hd : ∀ i j, j < m → dot (x :: l) (r i) (w j) = dot l (r i) (w j) := fun i j hj => by simp only [dot, hz' j hj]; simp
      have := tri l m r w (fun i hi => by rw [← hd i i hi]; exact h1 i hi) (fun i hi j hj => by rw [← hd i j (by omega)]; exact h2 i hi j hj)
      rw [List.length_cons]
      omega
/-! ### polynomials -/
def sm : Nat → (Nat → Int) → Int
  | 0, _ => 0
  | n + 1, f => sm n f + f n
theorem sm_congr {f g : Nat → Int} : ∀ n, (∀ a, a < n → f a = g a) → sm n f = sm n g
  | 0, _ => rfl
  | n + 1, h => by rw [sm, sm, sm_congr n fun a ha => h a (by omega), h n (by omega)]
theorem sm_lin (f g : Nat → Int) (t : Int) : ∀ n, sm n (fun a => f a - t * g a) = sm n f - t * sm n g
  | 0 => by simp [sm]
  | n + 1 => by
    simp only [sm, sm_lin f g t n]
    grind
theorem sm_shift (c : Nat → Int) (x : Int) : ∀ n, sm (n + 1) (fun a => (match a with | 0 => 0 | a + 1 => c a) * x ^ a) = x * sm n (fun a => c a * x ^ a)
  | 0 => by simp [sm]
  | n + 1 => by
    rw [sm, sm_shift c x n]
    simp only [sm]
    have : x ^ (n + 1) = x ^ n * x := Int.pow_succ x n
    rw [this]
    grind
def prodR (Q : List Nat) (x : Int) : Int := match Q with
  | [] => 1
  | t :: Q => (x - (t : Int)) * prodR Q x
theorem poly : ∀ Q : List Nat, ∃ c : Nat → Int, ∀ x, prodR Q x = sm (Q.length + 1) fun a => c a * x ^ a
  | [] => ⟨fun _ => 1, fun x => by simp [prodR, sm]⟩
  | t :: Q => by
    obtain ⟨c, hc⟩ := poly Q
    refine ⟨fun a => (match a with | 0 => 0 | a + 1 => c a) - (t : Int) * (if a ≤ Q.length then c a else 0), fun x => ?_⟩
    have e1 : (sm (Q.length + 1 + 1) fun a => ((match a with | 0 => 0 | a + 1 => c a) - (t : Int) * (if a ≤ Q.length then c a else 0)) * x ^ a) = sm (Q.length + 1 + 1) (fun a => (match a with | 0 => 0 | a + 1 => c a) * x ^ a - (t : Int) * ((if a ≤ Q.length then c a else 0) * x ^ a)) :=
      sm_congr _ fun a _ => by rw [Int.sub_mul, Int.mul_assoc]
    have e2 : (sm (Q.length + 1 + 1) fun a => (if a ≤ Q.length then c a else 0) * x ^ a) = sm (Q.length + 1) fun a => c a * x ^ a := by
      rw [sm, if_neg (by omega), Int.zero_mul, Int.add_zero]
      exact sm_congr _ fun a ha => by rw [if_pos (by omega)]
    rw [List.length_cons, e1, sm_lin, sm_shift, e2, ← hc x]
    show (x - (t : Int)) * prodR Q x = _
    rw [Int.sub_mul]
/-! ### products of two values -/
def prs : Nat → List (Nat × Nat)
  | 0 => [(0, 0)]
  | s + 1 => prs s ++ (((List.range (s + 1)).map fun a => (a, s + 1)) ++ [(s + 1, s + 1)])
theorem prs_len : ∀ s, 2 * (prs s).length = (s + 1) * (s + 2)
  | 0 => rfl
  | s + 1 => by
    have := prs_len s
    simp only [prs, List.length_append, List.length_map, List.length_range, List.length_singleton]
    grind
def ep (p q : Int) (x : Nat × Nat) : Int := if x.1 = x.2 then p ^ x.1 * q ^ x.1 else p ^ x.1 * q ^ x.2 + q ^ x.1 * p ^ x.2
theorem dot_range (f g : Nat × Nat → Int) (s : Nat) : ∀ n, dot ((List.range n).map fun a => (a, s)) f g = sm n fun a => f (a, s) * g (a, s)
  | 0 => rfl
  | n + 1 => by
    rw [List.range_succ, List.map_append, dot_append, dot_range f g s n]
    simp [dot, sm]
theorem sm_cross (c : Nat → Int) (p q P Q C : Int) : ∀ n, sm n (fun a => (p ^ a * Q + q ^ a * P) * (c a * C)) = C * (Q * sm n (fun a => c a * p ^ a) + P * sm n (fun a => c a * q ^ a))
  | 0 => by simp [sm]
  | n + 1 => by
    simp only [sm, sm_cross c p q P Q C n]
    grind
theorem sq (c : Nat → Int) (p q : Int) : ∀ s, sm (s + 1) (fun a => c a * p ^ a) * sm (s + 1) (fun a => c a * q ^ a) = dot (prs s) (ep p q) (fun x => c x.1 * c x.2)
  | 0 => by simp [sm, prs, dot, ep]
  | s + 1 => by
    rw [sm, show sm (s + 1 + 1) (fun a => c a * q ^ a) = sm (s + 1) (fun a => c a * q ^ a) + c (s + 1) * q ^ (s + 1) from rfl]
    rw [prs, dot_append, dot_append, ← sq c p q s, dot_range]
    have e : sm (s + 1) (fun a => ep p q (a, s + 1) * (c a * c (s + 1))) = sm (s + 1) (fun a => (p ^ a * q ^ (s + 1) + q ^ a * p ^ (s + 1)) * (c a * c (s + 1))) :=
      sm_congr _ fun a ha => by unfold ep; rw [if_neg (by show ¬ a = s + 1; omega)]
    show _ = _ + (sm (s + 1) (fun a => ep p q (a, s + 1) * (c a * c (s + 1))) + _)
    rw [e, sm_cross]
    simp only [dot, ep, if_true]
    grind
/-- so many pairs of points and lists of s points, each pair apart from its list and met by the lists before: at most (s + 1)(s + 2) / 2 -/
theorem pairs_few {m s : Nat} (p q : Nat → Nat) (Q : Nat → List Nat) (hl : ∀ i, i < m → (Q i).length = s) (h1 : ∀ i, i < m → p i ∉ Q i ∧ q i ∉ Q i) (h2 : ∀ i, i < m → ∀ j, j < i → p i ∈ Q j ∨ q i ∈ Q j) : 2 * m ≤ (s + 1) * (s + 2) := by
  have hp0 : ∀ (Q : List Nat) (x : Nat), x ∈ Q → prodR Q x = 0 := fun Q => by
    induction Q with
    | nil => intro x h; cases h
    | cons t Q ih =>
      intro x h
      rcases List.mem_cons.1 h with e | e
      · subst e; simp [prodR]
      · simp [prodR, ih x e]
  have hp1 : ∀ (Q : List Nat) (x : Nat), x ∉ Q → prodR Q x ≠ 0 := fun Q => by
    induction Q with
    | nil => intro x h; simp [prodR]
    | cons t Q ih =>
      intro x h
      rw [List.mem_cons, not_or] at h
      exact Int.mul_ne_zero (by omega) (ih x h.2)
  have hc : ∀ i, ∃ c : Nat → Int, ∀ x, prodR (Q i) x = sm ((Q i).length + 1) fun a => c a * x ^ a := fun i => poly (Q i)
  obtain ⟨c, hc⟩ := Classical.axiomOfChoice hc
  have e : ∀ i j, j < m → prodR (Q j) (p i) * prodR (Q j) (q i) = dot (prs s) (ep (p i) (q i)) (fun x => c j x.1 * c j x.2) := fun i j hj => by
    rw [hc j, hc j, hl j hj, sq]
  have := tri (prs s) m (fun i => ep (p i) (q i)) (fun j => fun x => c j x.1 * c j x.2) (fun i hi => by
    rw [← e i i hi]
    exact Int.mul_ne_zero (hp1 _ _ (h1 i hi).1) (hp1 _ _ (h1 i hi).2)) (fun i hi j hj => by
    rw [← e i j (by omega)]
    rcases h2 i hi j hj with h | h
    · rw [hp0 _ _ h, Int.zero_mul]
    · rw [hp0 _ _ h, Int.mul_zero])
  have := prs_len s
  omega
end Go.Proofs.YtmokccidpnpimaaDoor.Tri
