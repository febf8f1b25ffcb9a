/- slices.Sort and slices.Compact at a row of strings that the call owns: the kit's contracts in the words of XStrs; what Compact leaves of a sorted list. -/
import Derived.Test.YtmajalpmbppkpaaCpt
import Derived.Test.YtmajalpmbppkpaaSrt
import Derived.Test.YtmajalpmbppkpaaRBal
import Derived.Lib.OwnBridge
import Derived.Sort.OwnSorted
set_option linter.unusedVariables false
namespace Go.Proofs.Ytmajalpmbppkpaa
open Go.RowKit Go.Sort Go.Lib
theorem bas_strs (l : List (List UInt8)) : (bas l).map Value.string = l.map encStr := by unfold bas; rw [List.map_map]; rfl
theorem bas_length (l : List (List UInt8)) : (bas l).length = l.length := by unfold bas; simp
theorem mem_bas {l : List (List UInt8)} {x : ByteArray} : x ∈ bas l ↔ x.data.toList ∈ l := by
  unfold bas
  rw [List.mem_map]
  constructor
  · rintro ⟨y, hy, rfl⟩; simpa using hy
  · intro h; exact ⟨_, h, by simp⟩
def Le (zs : List (List UInt8)) : Prop := zs.Pairwise fun a b => a ≤ b
theorem compactUpTo_asc {zs : List (List UInt8)} (h : Le zs) : ∀ m, m ≤ zs.length → (compactUpTo zs.toArray m).Pairwise (fun a b => a < b) ∧ ∀ x, x ∈ compactUpTo zs.toArray m ↔ ∃ j, ∃ hj : j < zs.length, j < m ∧ zs[j] = x
  | 0, _ => ⟨by simp [compactUpTo], fun x => by simp [compactUpTo]⟩
  | m + 1, hm => by
    obtain ⟨p1, p2⟩ := compactUpTo_asc h m (by omega)
    have hml : m < zs.length := by omega
    have hd : ∀ j, j < zs.length → zs.toArray[j]! = zs.getD j [] := fun j hj => by simp [getElem!_pos, hj, List.getD_eq_getElem?_getD]
    have hg : ∀ j (hj : j < zs.length), zs.toArray[j]! = zs[j] := fun j hj => by simp [getElem!_pos, hj]
    rw [compactUpTo_succ]
    by_cases hk : keeps zs.toArray m = true
    · rw [if_pos hk, hg m hml]
      have hlt : ∀ x ∈ compactUpTo zs.toArray m, x < zs[m] := fun x hx => by
        obtain ⟨j, hj, hjm, rfl⟩ := (p2 x).1 hx
        have hne : zs[m - 1]'(by omega) ≠ zs[m] := by
          unfold keeps at hk
          simp only [decide_eq_true_eq] at hk
          rcases hk with h0 | h0
          · omega
          · rw [hg m hml, hg (m - 1) (by omega)] at h0
            exact fun e => h0 e.symm
        have hle1 : zs[m - 1]'(by omega) ≤ zs[m] := List.pairwise_iff_getElem.1 h (m - 1) m (by omega) hml (by omega)
        have hlt1 : zs[m - 1]'(by omega) < zs[m] := Decidable.byContradiction fun h4 => hne (List.le_antisymm hle1 h4)
        rcases Nat.lt_or_ge j (m - 1) with h' | h'
        · have hle2 : zs[j] ≤ zs[m - 1]'(by omega) := List.pairwise_iff_getElem.1 h j (m - 1) hj (by omega) h'
          exact List.lt_of_le_of_lt hle2 hlt1
        · obtain rfl : j = m - 1 := by omega
          exact hlt1
      refine ⟨List.pairwise_append.2 ⟨p1, by simp, fun a ha b hb => by rw [List.mem_singleton] at hb; subst hb; exact hlt a ha⟩, fun x => ?_⟩
      rw [List.mem_append, p2 x, List.mem_singleton]
      constructor
      · rintro (⟨j, hj, h1, h2⟩ | rfl)
        · exact ⟨j, hj, by omega, h2⟩
        · exact ⟨m, hml, by omega, rfl⟩
      · rintro ⟨j, hj, h1, h2⟩
        rcases Nat.lt_or_ge j m with h' | h'
        · exact .inl ⟨j, hj, h', h2⟩
        · obtain rfl : j = m := by omega
          exact .inr h2.symm
    · rw [if_neg hk, List.append_nil]
      refine ⟨p1, fun x => ?_⟩
      rw [p2 x]
      have hm0 : m ≠ 0 ∧ zs[m] = zs[m - 1]'(by omega) := by
        unfold keeps at hk
        simp only [decide_eq_true_eq] at hk
        have h0 : m ≠ 0 := fun e => hk (.inl e)
        refine ⟨h0, ?_⟩
        have := Decidable.byContradiction (p := zs.toArray[m]! = zs.toArray[m - 1]!) fun e => hk (.inr e)
        rwa [hg m hml, hg (m - 1) (by omega)] at this
      constructor
      · rintro ⟨j, hj, h1, h2⟩
        exact ⟨j, hj, by omega, h2⟩
      · rintro ⟨j, hj, h1, h2⟩
        rcases Nat.lt_or_ge j m with h' | h'
        · exact ⟨j, hj, h', h2⟩
        · obtain rfl : j = m := by omega
          exact ⟨j - 1, by omega, by omega, by rw [← hm0.2]; exact h2⟩
theorem compact_asc {zs : List (List UInt8)} (h : Le zs) : Asc (bas (compact zs)) ∧ ∀ x : ByteArray, x ∈ bas (compact zs) ↔ x.data.toList ∈ zs := by
  obtain ⟨p1, p2⟩ := compactUpTo_asc h zs.length (Nat.le_refl _)
  refine ⟨?_, fun x => ?_⟩
  · unfold Asc bas
    refine List.pairwise_map.2 ?_
    exact p1.imp fun {a b} h => by simpa using h
  · rw [mem_bas]
    unfold compact
    rw [p2]
    constructor
    · rintro ⟨j, hj, _, e⟩; rw [← e]; exact List.getElem_mem hj
    · intro h
      obtain ⟨j, hj, e⟩ := List.getElem_of_mem h
      exact ⟨j, hj, hj, e⟩
theorem compact_le (zs : List (List UInt8)) : (compact zs).length ≤ zs.length := by
  unfold compact compactUpTo
  rw [List.length_map]
  have := List.length_filter_le (keeps zs.toArray) (List.range zs.length)
  rwa [List.length_range] at this
theorem strs_enc {w : World} {B : Nat} {v : Value} {xs : List ByteArray} (h : Strs w B v xs) : w.ownsRow B 9 1 v xs.length ((xs.map (·.data.toList)).map encStr) := by
  rw [Lib.map_encStr]; exact h
theorem sort_any (B : Nat) (v : Value) (xs : List ByteArray) (w : World) (h : Strs w B v xs) (hb : xs.length ≤ 1000000) :
    Calls Try.prog 43 #[v] w fun e w' => e = .returned (.tuple #[]) ∧ ∃ zs, Le zs ∧ (∀ x : ByteArray, x.data.toList ∈ zs ↔ x ∈ xs) ∧ zs.length = xs.length ∧ Strs w' B v (bas zs) ∧ w.grownBy w' v.ownBlock := by
  by_cases hv : v = .slice none 0 0
  · subst hv
    have hx : xs = [] := by
      rcases h.2 with ⟨_, h0⟩ | ⟨g, cap, cur, e, _⟩
      · exact List.eq_nil_of_length_eq_zero h0
      · cases e
    subst hx
    refine (AnyM.slices_Sort_string_none Try.sort43 none 0 w).mono ?_
    rintro e w' ⟨rfl, rfl⟩
    exact ⟨rfl, [], List.Pairwise.nil, fun x => by simp, rfl, h, World.grownBy.refl _ _⟩
  · have hrow := strs_enc h
    obtain ⟨g, cap, rfl, hbg, hgl, hncap, hcm, hlen, hH⟩ := Lib.holds_of_ownsRow hrow hv
    have hs := AnyM.slices_Sort_string Try.sort43 g 0 cap (xs.map (·.data.toList)) w hH hgl (by rw [hlen]; omega)
    rw [hlen] at hs
    refine hs.mono ?_
    rintro e w' ⟨rfl, n, os, rfl⟩
    have tr : ∀ a b c : List UInt8, decide (a ≤ b) = true → decide (b ≤ c) = true → decide (a ≤ c) = true := fun a b c h1 h2 => by simp only [decide_eq_true_eq] at *; exact List.le_trans h1 h2
    have to : ∀ a b : List UInt8, (decide (a ≤ b) || decide (b ≤ a)) = true := fun a b => by simp only [Bool.or_eq_true, decide_eq_true_eq]; exact List.le_total a b
    have hl2 : ((xs.map (·.data.toList)).mergeSort fun x y => decide (x ≤ y)).length = xs.length := by rw [List.length_mergeSort, hlen]
    refine ⟨rfl, (xs.map (·.data.toList)).mergeSort fun x y => decide (x ≤ y), ?_, fun x => ?_, hl2, ?_, grownBy_sorted _⟩
    · exact (List.pairwise_mergeSort tr to _).imp fun {a b} h => by simpa using h
    · rw [(List.mergeSort_perm _ _).mem_iff, List.mem_map]
      constructor
      · rintro ⟨y, hy, e⟩; rw [← ba_ext e]; exact hy
      · intro hx; exact ⟨x, hx, rfl⟩
    · rcases hrow.2 with ⟨e0, _⟩ | ⟨g', cap', cur, e0, hb', hg', hn', hm', hs', ht'⟩
      · cases e0
      · cases e0
        have := ownsRow_sorted (n := n) (os := os) (ts := (xs.map (·.data.toList)).mergeSort fun x y => decide (x ≤ y)) (ss := xs.map (·.data.toList)) (by rw [List.length_mergeSort]) hbg hg' (by rw [hlen]; exact hn') hm' hs'
        rw [hlen] at this
        unfold Strs
        rw [bas_strs, bas_length, hl2]
        exact this
theorem compact_any (B : Nat) (v : Value) (zs : List (List UInt8)) (w : World) (h : Strs w B v (bas zs)) (hz : Le zs) (hb : zs.length ≤ 1000000) :
    Calls Try.prog 44 #[v] w fun e w' => ∃ v' cs, e = .returned v' ∧ Strs w' B v' cs ∧ Asc cs ∧ (∀ x : ByteArray, x ∈ cs ↔ x.data.toList ∈ zs) ∧ cs.length ≤ zs.length ∧ w.grownBy w' v.ownBlock := by
  obtain ⟨c1, c2⟩ := compact_asc hz
  by_cases hv : v = .slice none 0 0
  · subst hv
    have hx : zs = [] := by
      rcases h.2 with ⟨_, h0⟩ | ⟨g, cap, cur, e, _⟩
      · rw [bas_length] at h0; exact List.eq_nil_of_length_eq_zero h0
      · cases e
    subst hx
    refine (AnyG.slices_Compact_string_empty Try.compact44 none 0 w).mono ?_
    rintro e w' ⟨rfl, rfl⟩
    exact ⟨_, [], rfl, Strs.nil_ _ _, List.Pairwise.nil, fun x => by simp, by simp, World.grownBy.refl _ _⟩
  · have hrow : w.ownsRow B 9 1 v zs.length (zs.map encStr) := by
      have h' := h
      unfold Strs at h'
      rwa [bas_strs, bas_length] at h'
    obtain ⟨g, cap, rfl, hbg, hgl, hncap, hcm, hlen, hH⟩ := Lib.holds_of_ownsRow hrow hv
    refine (AnyG.slices_Compact_string Try.compact44 g 0 cap zs w hH (by omega) hncap).mono ?_
    rintro e w' ⟨rfl, q, rfl⟩
    have hcl := compact_le zs
    refine ⟨_, bas (compact zs), rfl, ?_, c1, c2, by rw [bas_length]; exact hcl, ?_⟩
    · have := Lib.ownsRow_putRow (q := q) (k := (compact zs).length) (ys := compact zs ++ List.replicate (zs.length - (compact zs).length) []) hrow (by simp; omega) hcl
      rw [List.take_left] at this
      unfold Strs
      rw [bas_strs, bas_length]
      exact this
    · have := grownBy_sorted (w := w) (g := g) (n := q) (os := #[]) (compact zs ++ List.replicate (zs.length - (compact zs).length) []).toArray
      rw [grow_empty] at this
      exact this
end Go.Proofs.Ytmajalpmbppkpaa
