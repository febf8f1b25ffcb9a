import Derived.Test.YtpppbkdbpbpinaaGreatDoorG11
import Derived.Test.YtpppbkdbpbpinaaGreatDoorG10
import Derived.Maps.Own
import Derived.Maps.OwnSet
import Derived.Maps.Views
set_option linter.unusedSimpArgs false
set_option linter.unusedVariables false
/- The set of numbers that were seen; the list of what the search has found. -/
set_option linter.unusedVariables false
namespace Go.Proofs.YtpppbkdbpbpinaaGreatDoor
open Go.RowKit Go.Maps
theorem wfN {z : Nat} (h : z < 9223372036854775808) : (Lit.int .i64 (z : Int)).wf = true := by
  have h1 : IntKind.i64.min = -9223372036854775808 := by decide
  have h2 : IntKind.i64.max = 9223372036854775807 := by decide
  simp only [Lit.wf, h1, h2, Bool.and_eq_true, decide_eq_true_eq]
  omega
/-- how an element reads: as it stands -/
def heldElem (v : Value) : Option (DataW Value × List MemPlace) := some (.held v, [])
theorem intLaw : Keyed Tryz.prog 3 := int_keyed Tryz.underlying3
theorem Tryz.underlyingISet : Tryz.prog.underlying 107 = some (.map 3 4) := by kernel_rfl
def SeenD (D : DataW Value) (S : List Nat) : Prop := IsMap D ∧ ∀ z : Nat, has D (.int .i64 z) = decide (z ∈ S) ∧ (z ∈ S → ∀ zd, D.atKey (.int .i64 z) zd = .held (.bool true))
theorem SeenD.nil : SeenD (.map []) [] := ⟨⟨[], rfl⟩, fun z => ⟨by simp [has], fun h => by cases h⟩⟩
theorem SeenD.put {D : DataW Value} {S : List Nat} (h : SeenD D S) (x : Nat) : SeenD (D.put (.int .i64 x) (.held (.bool true))) (S ++ [x]) := by
  refine ⟨h.1.put _ _, fun z => ?_⟩
  by_cases e : z = x
  · subst e
    refine ⟨by rw [has_put_same h.1 (by unfold WideAt.IsKeyLit; trivial)]; simp, fun _ zd => ?_⟩
    exact atKey_put_same h.1 (by unfold WideAt.IsKeyLit; trivial) _ _
  · have hne : Lit.int .i64 z ≠ .int .i64 x := by simpa using fun h : (z : Int) = x => e (by omega)
    refine ⟨by rw [has_put_other hne, (h.2 z).1]; simp [e], fun hy zd => ?_⟩
    rw [atKey_put_other hne]
    exact (h.2 z).2 (by simpa [e] using hy) zd
/-- the map M holds the numbers S -/
def SeenV (w : World) (M : Nat) (S : List Nat) : Prop := ∃ D, w.ownsMap Tryz.prog 3 heldElem M S.length D ∧ SeenD D S
section
variable {w w' : World} {M : Nat} {S : List Nat}
theorem SeenV.kept {row : Option Nat} (h : SeenV w M S) (hg : w.grownBy w' row) (hne : some M ≠ row) : SeenV w' M S := by
  obtain ⟨D, h1, h2⟩ := h
  exact ⟨D, h1.kept hg hne, h2⟩
theorem SeenV.alloc (h : SeenV w M S) (o : Obj) : SeenV (w.alloc o) M S := h.kept (World.grownBy_alloc w o none) (by simp)
theorem SeenV.drew (h : SeenV w M S) : SeenV w.drew M S := h
theorem SeenV.drewN (h : SeenV w M S) (n : Nat) : SeenV (w.drewN n) M S := h
theorem SeenV.lt (h : SeenV w M S) : M < w.heap.size := by
  obtain ⟨D, h1, _⟩ := h
  exact h1.lt
theorem SeenV.below {B : Nat} (h : SeenV w M S) (hb : Below B w w') (hM : M < B) : SeenV w' M S := by
  obtain ⟨D, ⟨es, clock, h0, h1⟩, h2⟩ := h
  exact ⟨D, ⟨es, clock, (hb.block M hM).trans h0, h1⟩, h2⟩
theorem SeenV.obj (h : SeenV w M S) : ∃ es clock, w.heap[M]? = some (.map es clock) := by
  obtain ⟨D, ⟨es, clock, h0, h1⟩, h2⟩ := h
  exact ⟨es, clock, h0⟩
theorem SeenV.made_ {g : Nat} (hg : w.heap.size = g) : SeenV (w.alloc (.map #[] 0)) g [] := by
  subst hg
  exact ⟨_, World.ownsMap_made w _ _ _, SeenD.nil⟩
theorem SeenV.look (h : SeenV w M S) (z : Nat) (hz : z < 9223372036854775808) :
    (Instr.lookup 107 (.map (some M)) (.int .i64 z) false).run Tryz.prog w = .ok (.bool (decide (z ∈ S))) w := by
  obtain ⟨D, h1, h2⟩ := h
  obtain ⟨v, ps, hr, hv⟩ := h1.lookup intLaw Tryz.underlyingISet (z := .bool false) (Tryz.zeroValue4 w) (zd := .held (.bool false)) (zp := []) rfl (Maps.keyOf_int_mk (a := (z : Int)) Tryz.underlying3 (wfN (by omega)))
  rw [hr]
  have hv' : DataW.held v = D.atKey (.int .i64 z) (.held (.bool false)) := congrArg Prod.fst (Option.some.inj hv)
  have e : v = .bool (decide (z ∈ S)) := by
    by_cases hm : z ∈ S
    · rw [(h2.2 z).2 hm] at hv'
      simpa [hm] using hv'
    · have := (h2.2 z).1
      rw [decide_eq_false hm] at this
      rw [atKey_of_not_has this] at hv'
      simpa [hm] using hv'
  rw [e]
theorem SeenV.store (h : SeenV w M S) (hn : S.length ≤ 1000000) (x : Nat) (hx : x < 9223372036854775808) :
    ∃ w', (Instr.mapUpdate 107 (.map (some M)) (.int .i64 x) (.bool true)).run Tryz.prog w = .ok () w' ∧ SeenV w' M (S ++ [x]) ∧ w.grownBy w' (some M) := by
  obtain ⟨D, hD, hF⟩ := h
  obtain ⟨w', hr, ho, hg⟩ := hD.update (val := .bool true) (ps := []) intLaw Tryz.underlyingISet (by unfold maxLen; omega) (Maps.keyOf_int_mk (a := (x : Int)) Tryz.underlying3 (wfN (by omega))) rfl
  exact ⟨w', hr, ⟨_, by rw [List.length_append]; exact ho, hF.put x⟩, hg⟩
end
/-- a map is no row -/
theorem row_ne_map {w : World} {B : Nat} {e : TypeId} {size n M : Nat} {v : Value} {xs : List Value} {S : List Nat} (h : w.ownsRow B e size v n xs) (hm : SeenV w M S) : some M ≠ v.ownBlock := by
  intro hh
  obtain ⟨es, clock, h0⟩ := hm.obj
  rcases h.2 with ⟨rfl, _⟩ | ⟨g, cap, cur, rfl, hb, hg, _⟩
  · cases hh
  · simp [Value.ownBlock] at hh
    subst hh
    rw [h0] at hg
    cases hg
/-- rows of two types do not share a block -/
theorem row_ne_row {w : World} {B B' : Nat} {e e' : TypeId} {size size' n n' : Nat} {v v' : Value} {xs xs' : List Value} (he : e ≠ e') (h : w.ownsRow B e size v n xs) (h' : w.ownsRow B' e' size' v' n' xs') : v.ownBlock = none ∨ v.ownBlock ≠ v'.ownBlock := by
  rcases h.2 with ⟨rfl, _⟩ | ⟨g, cap, cur, rfl, hb, hg, _⟩
  · exact .inl rfl
  · right
    intro hh
    rcases h'.2 with ⟨rfl, _⟩ | ⟨g', cap', cur', rfl, hb', hg', _⟩
    · cases hh
    · simp [Value.ownBlock] at hh
      subst hh
      rw [hg] at hg'
      simp at hg'
      exact he hg'.2
end Go.Proofs.YtpppbkdbpbpinaaGreatDoor

/- Plain: the list of what the search for a word has found. -/
set_option linter.unusedVariables false
namespace Go.Proofs.YtpppbkdbpbpinaaGreatDoor
/-- different numbers below m are at most m -/
theorem nodup_len : ∀ (m : Nat) (l : List Nat), l.Nodup → (∀ x ∈ l, x < m) → l.length ≤ m
  | 0, l, _, h => by
    cases l with
    | nil => exact Nat.le_refl _
    | cons a l => exact absurd (h a (List.mem_cons_self ..)) (by omega)
  | m + 1, l, hn, h => by
    by_cases hm : m ∈ l
    · have h1 := nodup_len m (l.erase m) (hn.erase _) fun x hx => by
        have hx2 := hn.mem_erase_iff.1 hx
        have := h x hx2.2
        have := hx2.1
        omega
      rw [List.length_erase_of_mem hm] at h1
      omega
    · have := nodup_len m l hn fun x hx => by
        have := h x hx
        have : x ≠ m := fun e => hm (e ▸ hx)
        omega
      omega
theorem growK_yes {rows : List (List Int)} {x : Nat × ByteArray} {l : List (Nat × ByteArray)} {c : Nat} (h : img rows x.1 c ∈ (growK rows x l c).map (·.1)) : growK rows x l (c + 1) = growK rows x l c := by
  rw [show growK rows x l (c + 1) = if img rows x.1 c ∈ (growK rows x l c).map (·.1) then growK rows x l c else growK rows x l c ++ [(img rows x.1 c, x.2 ++ ltr c)] from rfl, if_pos h]
theorem growK_no {rows : List (List Int)} {x : Nat × ByteArray} {l : List (Nat × ByteArray)} {c : Nat} (h : img rows x.1 c ∉ (growK rows x l c).map (·.1)) : growK rows x l (c + 1) = growK rows x l c ++ [(img rows x.1 c, x.2 ++ ltr c)] := by
  rw [show growK rows x l (c + 1) = if img rows x.1 c ∈ (growK rows x l c).map (·.1) then growK rows x l c else growK rows x l c ++ [(img rows x.1 c, x.2 ++ ltr c)] from rfl, if_neg h]
/-- what holds of all that was found -/
structure GoodL (rows : List (List Int)) (l : List (Nat × ByteArray)) : Prop where
  nd : (l.map (·.1)).Nodup
  lt : ∀ x ∈ l, x.1 < 2 ^ rows.length
  sz : ∀ j (h : j < l.length), l[j].2.size ≤ j
theorem GoodL.len {rows : List (List Int)} {L : Nat} (hA : Aut rows L) {l : List (Nat × ByteArray)} (h : GoodL rows l) : l.length ≤ 64 := by
  have := nodup_len (2 ^ rows.length) (l.map (·.1)) h.nd fun x hx => by
    obtain ⟨y, hy, rfl⟩ := List.mem_map.1 hx
    exact h.lt y hy
  have h2 := hA.pow
  rw [List.length_map] at this
  omega
theorem GoodL.one {rows : List (List Int)} {S : Nat} (hS : S < 2 ^ rows.length) : GoodL rows [(S, ⟨#[]⟩)] :=
  ⟨by simp, fun x hx => by obtain rfl : x = (S, ⟨#[]⟩) := by simpa using hx
                           exact hS, fun j hj => by simp at hj; subst hj; simp; rfl⟩
theorem ltr_size {c : Nat} (h : c < 16) : (ltr c).size = 1 := by
  have : ∀ c, c < 16 → (ltr c).size = 1 := by decide +kernel
  exact this c h
theorem growK_get {rows : List (List Int)} {x : Nat × ByteArray} {l : List (Nat × ByteArray)} {i : Nat} (hi : i < l.length) : ∀ c, ∃ h : i < (growK rows x l c).length, (growK rows x l c)[i] = l[i]
  | 0 => ⟨hi, rfl⟩
  | c + 1 => by
    obtain ⟨h, e⟩ := growK_get (rows := rows) (x := x) hi c
    by_cases hm : img rows x.1 c ∈ (growK rows x l c).map (·.1)
    · rw [growK_yes hm]; exact ⟨h, e⟩
    · rw [growK_no hm]
      exact ⟨by rw [List.length_append]; omega, by rw [List.getElem_append_left h, e]⟩
theorem GoodL.grow {rows : List (List Int)} {L : Nat} (hA : Aut rows L) {l : List (Nat × ByteArray)} (h : GoodL rows l) {i : Nat} (hi : i < l.length) : ∀ c, c ≤ L → GoodL rows (growK rows l[i] l c)
  | 0, _ => h
  | c + 1, hc => by
    have ih := GoodL.grow hA h hi c (by omega)
    obtain ⟨hg, _⟩ := growK_get (rows := rows) (x := l[i]) hi c
    by_cases hm : img rows l[i].1 c ∈ (growK rows l[i] l c).map (·.1)
    · rw [growK_yes hm]; exact ih
    · rw [growK_no hm]
      refine ⟨?_, fun x hx => ?_, fun j hj => ?_⟩
      · rw [List.map_append, List.nodup_append]
        refine ⟨ih.nd, by simp, fun a ha b hb => ?_⟩
        obtain rfl : b = img rows l[i].1 c := by simpa using hb
        rintro rfl
        exact hm ha
      · rcases List.mem_append.1 hx with hx | hx
        · exact ih.lt x hx
        · obtain rfl : x = (img rows l[i].1 c, l[i].2 ++ ltr c) := by simpa using hx
          exact hA.img_lt (by omega) _
      · rcases Nat.lt_or_ge j (growK rows l[i] l c).length with h1 | h1
        · rw [List.getElem_append_left h1]; exact ih.sz j h1
        · have hj2 : j = (growK rows l[i] l c).length := by simp at hj; omega
          subst hj2
          rw [List.getElem_append_right (Nat.le_refl _)]
          simp only [Nat.sub_self, List.getElem_cons_zero, ByteArray.size_append]
          rw [ltr_size (by have := hA.l3; omega)]
          have := h.sz i hi
          omega
theorem bfs_hit {rows : List (List Int)} {L : Nat} {l : List (Nat × ByteArray)} {i : Nat} (hi : i < l.length) (hl : l.length ≤ 64) (h : sglB l[i].1 = true) : bfs rows L (65 - i) i l = (l[i].2, true) := by
  obtain ⟨f, hf⟩ : ∃ f, 65 - i = f + 1 := ⟨64 - i, by omega⟩
  rw [hf]; unfold bfs
  rw [List.getElem?_eq_getElem hi]
  simp only [h, if_pos]
theorem bfs_step {rows : List (List Int)} {L : Nat} {l : List (Nat × ByteArray)} {i : Nat} (hi : i < l.length) (hl : l.length ≤ 64) (h : sglB l[i].1 = false) : bfs rows L (65 - i) i l = bfs rows L (65 - (i + 1)) (i + 1) (growK rows l[i] l L) := by
  obtain ⟨f, hf⟩ : ∃ f, 65 - i = f + 1 := ⟨64 - i, by omega⟩
  have h2 : 65 - (i + 1) = f := by omega
  rw [hf, h2]
  rw [show bfs rows L (f + 1) i l = (match l[i]? with | none => (⟨#[]⟩, false) | some x => if sglB x.1 then (x.2, true) else bfs rows L f (i + 1) (growK rows x l L)) from rfl]
  rw [List.getElem?_eq_getElem hi]
  simp only [h]
  rfl
theorem bfs_end {rows : List (List Int)} {L : Nat} {l : List (Nat × ByteArray)} {i : Nat} (hi : l.length ≤ i) (hi2 : i ≤ 64) : bfs rows L (65 - i) i l = (⟨#[]⟩, false) := by
  obtain ⟨f, hf⟩ : ∃ f, 65 - i = f + 1 := ⟨64 - i, by omega⟩
  rw [hf]; unfold bfs
  rw [List.getElem?_eq_none hi]
def fsN (l : List (Nat × ByteArray)) : List Nat := l.map (·.1)
def fsI (l : List (Nat × ByteArray)) : List Int := l.map fun x => (x.1 : Int)
def wsB (l : List (Nat × ByteArray)) : List ByteArray := l.map (·.2)
theorem fsI_len (l : List (Nat × ByteArray)) : (fsI l).length = l.length := by simp [fsI]
theorem wsB_len (l : List (Nat × ByteArray)) : (wsB l).length = l.length := by simp [wsB]
theorem fsN_len (l : List (Nat × ByteArray)) : (fsN l).length = l.length := by simp [fsN]
theorem fsN_snoc (l : List (Nat × ByteArray)) (x : Nat × ByteArray) : fsN (l ++ [x]) = fsN l ++ [x.1] := by simp [fsN]
theorem fsI_snoc (l : List (Nat × ByteArray)) (x : Nat × ByteArray) : fsI (l ++ [x]) = fsI l ++ [(x.1 : Int)] := by simp [fsI]
theorem wsB_snoc (l : List (Nat × ByteArray)) (x : Nat × ByteArray) : wsB (l ++ [x]) = wsB l ++ [x.2] := by simp [wsB]
theorem fsI_get (l : List (Nat × ByteArray)) (i : Nat) (h : i < l.length) : (fsI l)[i]'(by rw [fsI_len]; exact h) = (l[i].1 : Int) := by simp [fsI]
theorem wsB_get (l : List (Nat × ByteArray)) (i : Nat) (h : i < l.length) : (wsB l)[i]'(by rw [wsB_len]; exact h) = l[i].2 := by simp [wsB]
end Go.Proofs.YtpppbkdbpbpinaaGreatDoor
