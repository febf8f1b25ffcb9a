/- Rows of ints that the call itself makes; the set of numbers that were seen; the list of what the search has found. -/
import Derived.Test.YtmokccidpnpimaaDoorStrs
import Derived.Test.YtmokccidpnpimaaDoorLead
import Derived.Maps.Own
import Derived.Maps.OwnSet
import Derived.Maps.Views
set_option linter.unusedVariables false
namespace Go.Proofs.YtmokccidpnpimaaDoor
open Go.RowKit Go.Maps
theorem infoIntA : (Tryd.prog.info? 3).map (fun i => (i.zero, i.size, i.bytes)) = some (some (.int .i64 0), 1, 8) := by kernel_rfl
/-- the slice value v holds the strings xs in a row of the call's own (blocks from B on) -/
def Ints (w : World) (B : Nat) (v : Value) (xs : List Int) : Prop := w.ownsRow B 3 1 v xs.length (xs.map (Value.int .i64))
section
variable {w w' : World} {B : Nat} {v : Value} {xs : List Int}
theorem Ints.nil_ (w : World) (B : Nat) : Ints w B (.slice none 0 0) [] := World.ownsRow_nil _ _ _ _
theorem Ints.alloc (h : Ints w B v xs) (o : Obj) : Ints (w.alloc o) B v xs := World.ownsRow.alloc h o
theorem Ints.drew (h : Ints w B v xs) : Ints w.drew B v xs := h
theorem Ints.drewN (h : Ints w B v xs) (n : Nat) : Ints (w.drewN n) B v xs := h
theorem Ints.lit (w : World) (xs : List Int) (hB : B ≤ w.heap.size) (hm : xs.length ≤ 4294967296) (cs : Array Value) (hc : cs = (xs.map (Value.int .i64)).toArray) :
    Ints (w.alloc (.cells cs 3)) B (.slice (some ⟨w.heap.size, 0, none⟩) xs.length xs.length) xs := by
  subst hc
  have := World.ownsRow_lit (base := B) (e := 3) (size := 1) w (xs.map (Value.int .i64)).toArray xs.length hB (by unfold maxLen; omega) (by simp)
  simpa [Ints] using this
theorem Ints.empty_ {w : World} {B g : Nat} (hg : w.heap.size = g) (hB : B ≤ g) : Ints (w.alloc (.cells #[] 3)) B (.slice (some ⟨g, 0, none⟩) 0 0) [] := by
  subst hg
  exact World.ownsRow_made (base := B) (e := 3) (size := 1) w #[] 0 hB (by decide) rfl
theorem Ints.one_ {w : World} {B g : Nat} (hg : w.heap.size = g) (hB : B ≤ g) (s : Int) : Ints (w.alloc (.cells #[.int .i64 s] 3)) B (.slice (some ⟨g, 0, none⟩) 1 1) [s] := by
  subst hg
  exact Ints.lit w [s] hB (by simp) _ rfl
theorem Ints.form (h : Ints w B v xs) (hne : 0 < xs.length) : ∃ g cap, v = .slice (some ⟨g, 0, none⟩) xs.length cap ∧ B ≤ g ∧ g < w.heap.size := by
  rcases h.2 with ⟨_, hn⟩ | ⟨g, cap, cur, hv, hb, hh, _⟩
  · omega
  · refine ⟨g, cap, hv, hb, ?_⟩
    rcases Nat.lt_or_ge g w.heap.size with hlt | hge
    · exact hlt
    · rw [Array.getElem?_eq_none hge] at hh; cases hh
/-- the value: nil, or a slice of that length -/
theorem Ints.shape (h : Ints w B v xs) : ∃ ad cap, v = .slice ad xs.length cap := by
  rcases h.2 with ⟨hv, hn⟩ | ⟨g, cap, cur, hv, _⟩
  · exact ⟨none, 0, by rw [hv, hn]⟩
  · exact ⟨_, cap, hv⟩
theorem Ints.cell {g cap n : Nat} (h : Ints w B (.slice (some ⟨g, 0, none⟩) n cap) xs) {k : Nat} (hk : k < xs.length) : w.cell? ⟨g, k, none⟩ = some (.int .i64 xs[k]) := by
  have hn : n = xs.length := by
    rcases h.2 with ⟨h', _⟩ | ⟨g', cap', cur, h', _⟩
    · simp at h'
    · simp only [Value.slice.injEq] at h'; exact h'.2.1
  subst hn
  have := World.ownsRow.cellAt h k (by omega)
  rw [this]; simp [hk]
end
theorem run_app_ints (w : World) (ty : TypeId) (B : Nat) (v : Value) (xs : List Int) (hown : Ints w B v xs) (g m : Nat) (news : List Int) (hl : news.length = m)
    (hblk : w.heap[g]? = some (.cells (news.map (Value.int .i64)).toArray 3 (0, 0))) (hb : xs.length + m ≤ 4294967296) (hbase : B ≤ w.heap.size) :
    ∃ v' w', (Builtin.append_ #[27, 27] ty #[v, .slice (some ⟨g, 0, none⟩) m m]).run Tryd.prog w = .ok v' w' ∧ Ints w' B v' (xs ++ news) ∧ w.grownBy w' v.ownBlock := by
  obtain ⟨i0, hi, hz0, hz1, hz2⟩ := info_parts infoIntA
  obtain ⟨v', w', h1, h2, h3, _⟩ := run_append_own (P := Tryd.prog) w B 27 ty 3 i0 _ 1 8 Tryd.underlying27 hi hz0 hz1 hz2 rfl (by decide) v xs.length (xs.map (Value.int .i64)) hown ⟨g, 0, none⟩ m m (news.map (Value.int .i64)) (by simp [hl]) (by
      intro j u hj
      have : (⟨g, 0, none⟩ : Addr).add j = ⟨g, j, none⟩ := by unfold Addr.add; split <;> simp_all
      rw [this, cell_of_row w g j _ 3 (0, 0) hblk]
      simpa using hj) (by
      intro u hu
      obtain ⟨b, _, rfl⟩ := List.mem_map.1 hu
      rfl) (by unfold maxLen; omega) (by omega) hbase
  refine ⟨v', w', h1, ?_, h3⟩
  unfold Ints
  rw [List.length_append, hl, List.map_append]
  exact h2
theorem wp_app_ints {w : World} {o : Oper} {a : Act} {K : Act → World → Prop} {Q : Exit → Act → World → Prop} (s x : Operand)
    (ho : o.op = .call { callee := .builtin .append, args := #[s, x], argTypes := #[27, 27] })
    (B : Nat) (v : Value) (xs : List Int) (hs : a.eval s = v) (hown : Ints w B v xs)
    (g m : Nat) (news : List Int) (hx : a.eval x = .slice (some ⟨g, 0, none⟩) m m) (hl : news.length = m) (hblk : w.heap[g]? = some (.cells (news.map (Value.int .i64)).toArray 3 (0, 0)))
    (hb : xs.length + m ≤ 4294967296) (hbase : B ≤ w.heap.size)
    (h : ∀ v' w', Ints w' B v' (xs ++ news) → w.grownBy w' v.ownBlock → K (a.put o.dst v') w') : o.wp Tryd.prog a w K Q := by
  obtain ⟨v', w', hr, h2, h3⟩ := run_app_ints w o.type B v xs hown g m news hl hblk hb hbase
  unfold Oper.wp execOp
  simp only [ho, resolve, invoke, builtin, Sem.run_bind, Sem.run_pure, Result.andThen_ok, List.map_toArray, List.map_cons, List.map_nil, hs, hx, hr]
  exact h v' w' h2 h3
theorem wpList_app_ints {w : World} {ops : Array Oper} {rest : List Oper} {o : Oper} {a : Act} {Q : Exit → Act → World → Prop} (hgd : o.guard = none) (s x : Operand)
    (ho : o.op = .call { callee := .builtin .append, args := #[s, x], argTypes := #[27, 27] })
    (B : Nat) (v : Value) (xs : List Int) (hs : a.eval s = v) (hown : Ints w B v xs)
    (g m : Nat) (news : List Int) (hx : a.eval x = .slice (some ⟨g, 0, none⟩) m m) (hl : news.length = m) (hblk : w.heap[g]? = some (.cells (news.map (Value.int .i64)).toArray 3 (0, 0)))
    (hb : xs.length + m ≤ 4294967296) (hbase : B ≤ w.heap.size)
    (h : ∀ v' w', Ints w' B v' (xs ++ news) → w.grownBy w' v.ownBlock → wpList Tryd.prog ops Q rest (a.put o.dst v') w') : wpList Tryd.prog ops Q (o :: rest) a w :=
  wpList_plain hgd fun _ hK => wp_app_ints s x ho B v xs hs hown g m news hx hl hblk hb hbase fun v' w' h2 h3 => hK _ _ (h v' w' h2 h3)
theorem step_app_ints {w : World} {ops : Array Oper} {o : Oper} {a : Act} {K : Act → World → Prop} {Q : Exit → Act → World → Prop} {E : Prop} (hgd : o.guard = none) (s x : Operand)
    (ho : o.op = .call { callee := .builtin .append, args := #[s, x], argTypes := #[27, 27] })
    (B : Nat) (v : Value) (xs : List Int) (hs : a.eval s = v) (hown : Ints w B v xs)
    (g m : Nat) (news : List Int) (hx : a.eval x = .slice (some ⟨g, 0, none⟩) m m) (hl : news.length = m) (hblk : w.heap[g]? = some (.cells (news.map (Value.int .i64)).toArray 3 (0, 0)))
    (hb : xs.length + m ≤ 4294967296) (hbase : B ≤ w.heap.size)
    (h : ∀ v' w', Ints w' B v' (xs ++ news) → w.grownBy w' v.ownBlock → K (a.put o.dst v') w') :
    if Region.wanted o (yielded ops a.tmps) = true then Oper.wp Tryd.prog o a w K Q else E := by
  have hw : Region.wanted o (yielded ops a.tmps) = true := by simp [Region.wanted, hgd]
  rw [if_pos hw]
  exact wp_app_ints s x ho B v xs hs hown g m news hx hl hblk hb hbase h
theorem below_appi {W w w' : World} {v : Value} {xs : List Int} (hB : Below W.heap.size W w) (hs : Ints w W.heap.size v xs) (hg : w.grownBy w' v.ownBlock) : Below W.heap.size W w' :=
  hB.grown hg hB.size (fun _ hk => (World.ownsRow.lt hs _ hk).1)

/-! ### the set of numbers that were seen -/
theorem wfN {z : Nat} (h : z < 9223372036854775808) : (Lit.int .i64 (z : Int)).wf = true := by
  have h1 : IntKind.i64.min = -9223372036854775808 := by decide
  have h2 : IntKind.i64.max = 9223372036854775807 := by decide
  simp only [Lit.wf, h1, h2, Bool.and_eq_true, decide_eq_true_eq]
  omega
/-- how an element reads: as it stands -/
def heldElem (v : Value) : Option (DataW Value × List MemPlace) := some (.held v, [])
theorem intLaw : Keyed Tryd.prog 3 := int_keyed Tryd.underlying3
theorem Tryd.underlyingISet : Tryd.prog.underlying 55 = some (.map 3 4) := by kernel_rfl
def SeenD (D : DataW Value) (S : List Nat) : Prop := IsMap D ∧ ∀ z : Nat, has D (.int .i64 z) = decide (z ∈ S) ∧ (z ∈ S → ∀ zd, D.atKey (.int .i64 z) zd = .held (.bool true))
theorem SeenD.nil : SeenD (.map []) [] := ⟨⟨[], rfl⟩, fun z => ⟨by simp [has], fun h => by cases h⟩⟩
theorem SeenD.put {D : DataW Value} {S : List Nat} (h : SeenD D S) (x : Nat) : SeenD (D.put (.int .i64 x) (.held (.bool true))) (S ++ [x]) := by
  refine ⟨h.1.put _ _, fun z => ?_⟩
  by_cases e : z = x
  · subst e
    refine ⟨by rw [has_put_same h.1 (by unfold WideAt.IsKeyLit; trivial)]; simp, fun _ zd => ?_⟩
    exact atKey_put_same h.1 (by unfold WideAt.IsKeyLit; trivial) _ _
  · have hne : Lit.int .i64 z ≠ .int .i64 x := by simpa using fun h : (z : Int) = x => e (by omega)
    refine ⟨by rw [has_put_other hne, (h.2 z).1]; simp [e], fun hy zd => ?_⟩
    rw [atKey_put_other hne]
    exact (h.2 z).2 (by simpa [e] using hy) zd
/-- the map M holds the numbers S -/
def SeenV (w : World) (M : Nat) (S : List Nat) : Prop := ∃ D, w.ownsMap Tryd.prog 3 heldElem M S.length D ∧ SeenD D S
section
variable {w w' : World} {M : Nat} {S : List Nat}
theorem SeenV.kept {row : Option Nat} (h : SeenV w M S) (hg : w.grownBy w' row) (hne : some M ≠ row) : SeenV w' M S := by
  obtain ⟨D, h1, h2⟩ := h
  exact ⟨D, h1.kept hg hne, h2⟩
theorem SeenV.alloc (h : SeenV w M S) (o : Obj) : SeenV (w.alloc o) M S := h.kept (World.grownBy_alloc w o none) (by simp)
theorem SeenV.drew (h : SeenV w M S) : SeenV w.drew M S := h
theorem SeenV.drewN (h : SeenV w M S) (n : Nat) : SeenV (w.drewN n) M S := h
theorem SeenV.lt (h : SeenV w M S) : M < w.heap.size := by
  obtain ⟨D, h1, _⟩ := h
  exact h1.lt
theorem SeenV.below {B : Nat} (h : SeenV w M S) (hb : Below B w w') (hM : M < B) : SeenV w' M S := by
  obtain ⟨D, ⟨es, clock, h0, h1⟩, h2⟩ := h
  exact ⟨D, ⟨es, clock, (hb.block M hM).trans h0, h1⟩, h2⟩
theorem SeenV.obj (h : SeenV w M S) : ∃ es clock, w.heap[M]? = some (.map es clock) := by
  obtain ⟨D, ⟨es, clock, h0, h1⟩, h2⟩ := h
  exact ⟨es, clock, h0⟩
theorem SeenV.made_ {g : Nat} (hg : w.heap.size = g) : SeenV (w.alloc (.map #[] 0)) g [] := by
  subst hg
  exact ⟨_, World.ownsMap_made w _ _ _, SeenD.nil⟩
theorem SeenV.look (h : SeenV w M S) (z : Nat) (hz : z < 9223372036854775808) :
    (Instr.lookup 55 (.map (some M)) (.int .i64 z) false).run Tryd.prog w = .ok (.bool (decide (z ∈ S))) w := by
  obtain ⟨D, h1, h2⟩ := h
  obtain ⟨v, ps, hr, hv⟩ := h1.lookup intLaw Tryd.underlyingISet (z := .bool false) (Tryd.zeroValue4 w) (zd := .held (.bool false)) (zp := []) rfl (Maps.keyOf_int_mk (a := (z : Int)) Tryd.underlying3 (wfN (by omega)))
  rw [hr]
  have hv' : DataW.held v = D.atKey (.int .i64 z) (.held (.bool false)) := congrArg Prod.fst (Option.some.inj hv)
  have e : v = .bool (decide (z ∈ S)) := by
    by_cases hm : z ∈ S
    · rw [(h2.2 z).2 hm] at hv'
      simpa [hm] using hv'
    · have := (h2.2 z).1
      rw [decide_eq_false hm] at this
      rw [atKey_of_not_has this] at hv'
      simpa [hm] using hv'
  rw [e]
theorem SeenV.store (h : SeenV w M S) (hn : S.length ≤ 1000000) (x : Nat) (hx : x < 9223372036854775808) :
    ∃ w', (Instr.mapUpdate 55 (.map (some M)) (.int .i64 x) (.bool true)).run Tryd.prog w = .ok () w' ∧ SeenV w' M (S ++ [x]) ∧ w.grownBy w' (some M) := by
  obtain ⟨D, hD, hF⟩ := h
  obtain ⟨w', hr, ho, hg⟩ := hD.update (val := .bool true) (ps := []) intLaw Tryd.underlyingISet (by unfold maxLen; omega) (Maps.keyOf_int_mk (a := (x : Int)) Tryd.underlying3 (wfN (by omega))) rfl
  exact ⟨w', hr, ⟨_, by rw [List.length_append]; exact ho, hF.put x⟩, hg⟩
end
/-- a map is no row -/
theorem row_ne_map {w : World} {B : Nat} {e : TypeId} {size n M : Nat} {v : Value} {xs : List Value} {S : List Nat} (h : w.ownsRow B e size v n xs) (hm : SeenV w M S) : some M ≠ v.ownBlock := by
  intro hh
  obtain ⟨es, clock, h0⟩ := hm.obj
  rcases h.2 with ⟨rfl, _⟩ | ⟨g, cap, cur, rfl, hb, hg, _⟩
  · cases hh
  · simp [Value.ownBlock] at hh
    subst hh
    rw [h0] at hg
    cases hg
/-- rows of two types do not share a block -/
theorem row_ne_row {w : World} {B B' : Nat} {e e' : TypeId} {size size' n n' : Nat} {v v' : Value} {xs xs' : List Value} (he : e ≠ e') (h : w.ownsRow B e size v n xs) (h' : w.ownsRow B' e' size' v' n' xs') : v.ownBlock = none ∨ v.ownBlock ≠ v'.ownBlock := by
  rcases h.2 with ⟨rfl, _⟩ | ⟨g, cap, cur, rfl, hb, hg, _⟩
  · exact .inl rfl
  · right
    intro hh
    rcases h'.2 with ⟨rfl, _⟩ | ⟨g', cap', cur', rfl, hb', hg', _⟩
    · cases hh
    · simp [Value.ownBlock] at hh
      subst hh
      rw [hg] at hg'
      simp at hg'
      exact he hg'.2
end Go.Proofs.YtmokccidpnpimaaDoor
