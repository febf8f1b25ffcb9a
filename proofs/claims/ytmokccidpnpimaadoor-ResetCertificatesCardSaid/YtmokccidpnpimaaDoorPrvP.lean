/- Plain: what reset.proves answers. -/
import Derived.Test.YtmokccidpnpimaaDoorEqI
import Derived.Test.YtmokccidpnpimaaDoorSrcL
set_option linter.unusedVariables false
namespace Go.Proofs.YtmokccidpnpimaaDoor
/-- an element of a layer may stand there -/
def okAt (F : Int) (a : List Int) (i : Nat) : Bool := !(decide (a.getD i 0 < 1) || decide (F < a.getD i 0) || sglB (a.getD i 0).toNat || (decide (0 < i) && decide (a.getD i 0 ≤ a.getD (i - 1) 0)))
/-- where a letter leads to, has been seen or stands in the next layer -/
def stOk (rows : List (List Int)) (seen : List Nat) (next : List Int) (S c : Nat) : Bool := decide (img rows S c ∈ seen) || hasI (img rows S c : Nat) next
def natL (a : List Int) : List Nat := a.map Int.toNat
/-- what stands in the first k layers -/
def snL (ls : List (List Int)) (k : Nat) : List Nat := (ls.take k).flatMap natL
def okLay (F : Int) (a : List Int) : Bool := (List.range a.length).all (okAt F a)
def okStep (rows : List (List Int)) (L : Nat) (ls : List (List Int)) (k : Nat) : Bool := (List.range (ls.getD k []).length).all fun i => (List.range L).all fun c => stOk rows (snL ls (k + 1)) (ls.getD (k + 1) []) ((ls.getD k []).getD i 0).toNat c
def layOk (rows : List (List Int)) (L : Nat) (ls : List (List Int)) (k : Nat) : Bool := okLay (2 ^ rows.length - 1 : Nat) (ls.getD k []) && (decide (k + 1 = ls.length) || okStep rows L ls k)
def prv (rows : List (List Int)) (L : Nat) (ls : List (List Int)) : Bool := (decide (ls.length = 0) || decide (ls.getD 0 [] = [((2 ^ rows.length - 1 : Nat) : Int)])) && (List.range ls.length).all (layOk rows L ls)
theorem snL_succ {ls : List (List Int)} {k : Nat} (h : k < ls.length) : snL ls (k + 1) = snL ls k ++ natL ls[k] := by
  unfold snL
  rw [List.take_succ_eq_append_getElem h, List.flatMap_append]
  simp
theorem all_no {n : Nat} {f : Nat → Bool} {i : Nat} (hi : i < n) (h : f i = false) : (List.range n).all f = false := by
  rw [← Bool.not_eq_true, List.all_eq_true]
  intro hh
  rw [hh i (List.mem_range.2 hi)] at h
  cases h
theorem all_yes {n : Nat} {f : Nat → Bool} (h : ∀ i, i < n → f i = true) : (List.range n).all f = true := by
  rw [List.all_eq_true]
  intro i hi
  exact h i (List.mem_range.1 hi)
theorem prv_head {rows : List (List Int)} {L : Nat} {ls : List (List Int)} (h0 : 0 < ls.length) (h : ls.getD 0 [] ≠ [((2 ^ rows.length - 1 : Nat) : Int)]) : prv rows L ls = false := by
  unfold prv
  rw [decide_eq_false (by omega), decide_eq_false h]; rfl
theorem prv_lay {rows : List (List Int)} {L : Nat} {ls : List (List Int)} {k : Nat} (hk : k < ls.length) (h : layOk rows L ls k = false) : prv rows L ls = false := by
  unfold prv
  rw [all_no hk h, Bool.and_false]
theorem prv_ok {rows : List (List Int)} {L : Nat} {ls : List (List Int)} (h0 : ls.length = 0 ∨ ls.getD 0 [] = [((2 ^ rows.length - 1 : Nat) : Int)]) (h : ∀ k, k < ls.length → layOk rows L ls k = true) : prv rows L ls = true := by
  unfold prv
  rw [all_yes h, Bool.and_true, Bool.or_eq_true]
  rcases h0 with h0 | h0
  · left; exact decide_eq_true h0
  · right; exact decide_eq_true h0
theorem layOk_el {rows : List (List Int)} {L : Nat} {ls : List (List Int)} {k i : Nat} (hi : i < (ls.getD k []).length) (h : okAt (2 ^ rows.length - 1 : Nat) (ls.getD k []) i = false) : layOk rows L ls k = false := by
  unfold layOk okLay
  rw [all_no hi h]; rfl
theorem layOk_st {rows : List (List Int)} {L : Nat} {ls : List (List Int)} {k i c : Nat} (hk : k + 1 < ls.length) (hi : i < (ls.getD k []).length) (hc : c < L) (h : stOk rows (snL ls (k + 1)) (ls.getD (k + 1) []) ((ls.getD k []).getD i 0).toNat c = false) : layOk rows L ls k = false := by
  unfold layOk okStep
  rw [decide_eq_false (show ¬ k + 1 = ls.length by omega), all_no hi (all_no hc h)]
  simp
theorem layOk_yes {rows : List (List Int)} {L : Nat} {ls : List (List Int)} {k : Nat} (h1 : ∀ i, i < (ls.getD k []).length → okAt (2 ^ rows.length - 1 : Nat) (ls.getD k []) i = true)
    (h2 : k + 1 = ls.length ∨ ∀ i, i < (ls.getD k []).length → ∀ c, c < L → stOk rows (snL ls (k + 1)) (ls.getD (k + 1) []) ((ls.getD k []).getD i 0).toNat c = true) : layOk rows L ls k = true := by
  unfold layOk okLay
  rw [all_yes h1, Bool.true_and, Bool.or_eq_true]
  rcases h2 with h2 | h2
  · left; exact decide_eq_true h2
  · right; exact all_yes fun i hi => all_yes fun c hc => h2 i hi c hc
theorem okAt_iff {F : Int} {a : List Int} {i : Nat} : okAt F a i = true ↔ 1 ≤ a.getD i 0 ∧ a.getD i 0 ≤ F ∧ sglB (a.getD i 0).toNat = false ∧ (0 < i → a.getD (i - 1) 0 < a.getD i 0) := by
  unfold okAt
  simp only [Bool.not_eq_true', Bool.or_eq_false_iff, Bool.and_eq_false_imp, decide_eq_false_iff_not, decide_eq_true_eq]
  constructor
  · rintro ⟨⟨⟨h1, h2⟩, h3⟩, h4⟩
    exact ⟨by omega, by omega, h3, fun h => by have := h4 h; omega⟩
  · rintro ⟨h1, h2, h3, h4⟩
    exact ⟨⟨⟨by omega, by omega⟩, h3⟩, fun h => by have := h4 h; omega⟩
theorem okAt_no {F : Int} {a : List Int} {i : Nat} (h : ¬ (1 ≤ a.getD i 0 ∧ a.getD i 0 ≤ F ∧ sglB (a.getD i 0).toNat = false ∧ (0 < i → a.getD (i - 1) 0 < a.getD i 0))) : okAt F a i = false := by
  rw [← Bool.not_eq_true, okAt_iff]; exact h
theorem snL_len {ls : List (List Int)} (hl : ls.length ≤ 70) (hx : ∀ x ∈ ls, x.length ≤ 70) (k : Nat) : (snL ls k).length ≤ 4900 := by
  have key : ∀ (m : List (List Int)), (∀ x ∈ m, x.length ≤ 70) → (m.flatMap natL).length ≤ m.length * 70 := by
    intro m
    induction m with
    | nil => intro _; simp
    | cons a m ih =>
      intro h
      rw [List.flatMap_cons, List.length_append, List.length_cons]
      have h1 := ih fun x hx => h x (List.mem_cons_of_mem _ hx)
      have h2 := h a (List.mem_cons_self ..)
      have h3 : (natL a).length = a.length := by simp [natL]
      omega
  have h1 := key (ls.take k) fun x hx' => hx x (List.mem_of_mem_take hx')
  have h2 : (ls.take k).length ≤ ls.length := by rw [List.length_take]; omega
  unfold snL
  omega
end Go.Proofs.YtmokccidpnpimaaDoor
