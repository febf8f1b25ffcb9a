/- The queue of the search: a row of structs that the call itself makes, with what was taken off its head. -/
import Derived.Test.YtmokccidpnpimaaDoorFst4
import Derived.ArgAppend
set_option linter.unusedVariables false
namespace Go.Proofs.YtmokccidpnpimaaDoor
open Go.RowKit Go.Maps
theorem infoFound : (Tryd.prog.info? 74).map (fun i => (i.zero, i.size, i.bytes)) = some (some (.agg #[.int .i64 0, .string ⟨#[]⟩]), 2, 24) := by kernel_rfl
def fcells : List (Nat × ByteArray) → List Value
  | [] => []
  | x :: r => .int .i64 x.1 :: .string x.2 :: fcells r
theorem fcells_len : ∀ r, (fcells r).length = r.length * 2
  | [] => rfl
  | x :: r => by simp [fcells, fcells_len r]; omega
theorem fcells_append : ∀ r s, fcells (r ++ s) = fcells r ++ fcells s
  | [], s => rfl
  | x :: r, s => by simp [fcells, fcells_append r s]
/-- the slice value v holds r, in the block g of the call's own -/
def QueV (w : World) (B g : Nat) (v : Value) (r : List (Nat × ByteArray)) : Prop :=
  ∃ o cap cur, v = .slice (some ⟨g, o, none⟩) r.length cap ∧ B ≤ g ∧ w.heap[g]? = some (.cells cur 74 (0, 0)) ∧ r.length ≤ cap ∧ cap ≤ maxLen ∧ o + cap * 2 ≤ cur.size ∧ (cur.toList.drop o).take (r.length * 2) = fcells r
section
variable {w w' : World} {B g : Nat} {v : Value} {r : List (Nat × ByteArray)}
theorem QueV.lt (h : QueV w B g v r) : g < w.heap.size := by
  obtain ⟨o, cap, cur, _, _, hg, _⟩ := h
  exact (Array.getElem?_eq_some_iff.1 hg).1
theorem QueV.ge (h : QueV w B g v r) : B ≤ g := by
  obtain ⟨o, cap, cur, _, hb, _⟩ := h
  exact hb
theorem QueV.move (h : QueV w B g v r) (hh : w'.heap[g]? = w.heap[g]?) : QueV w' B g v r := by
  obtain ⟨o, cap, cur, h1, h2, h3, h4⟩ := h
  exact ⟨o, cap, cur, h1, h2, hh.trans h3, h4⟩
theorem QueV.kept {row : Option Nat} (h : QueV w B g v r) (hg : w.grownBy w' row) (hne : some g ≠ row) : QueV w' B g v r := h.move (hg.block g h.lt hne)
theorem QueV.alloc (h : QueV w B g v r) (o : Obj) : QueV (w.alloc o) B g v r := h.kept (World.grownBy_alloc w o none) (by simp)
theorem QueV.drew (h : QueV w B g v r) : QueV w.drew B g v r := h
theorem QueV.below {C : Nat} (h : QueV w B g v r) (hb : Below C w w') (hc : w.heap.size ≤ C) : QueV w' B g v r := h.move (hb.block g (Nat.lt_of_lt_of_le h.lt hc))
theorem QueV.one_ {n : Nat} (hn : w.heap.size = n) (hB : B ≤ n) (S : Nat) (s : ByteArray) : QueV (w.alloc (.cells #[.int .i64 S, .string s] 74)) B n (.slice (some ⟨n, 0, none⟩) 1 1) [(S, s)] := by
  subst hn
  exact ⟨0, 1, _, rfl, hB, heap_alloc_new w _, Nat.le_refl _, by unfold maxLen; omega, by simp, rfl⟩
/-- the head can be read -/
theorem QueV.head {x : Nat × ByteArray} (h : QueV w B g v (x :: r)) : ∃ o cap, v = .slice (some ⟨g, o, none⟩) (r.length + 1) cap ∧ w.cell? ⟨g, o, none⟩ = some (.int .i64 x.1) ∧ w.cell? ⟨g, o + 1, none⟩ = some (.string x.2) ∧ r.length + 1 ≤ cap ∧ cap ≤ maxLen ∧
    QueV w B g (.slice (some ⟨g, if cap = 1 then o else o + 2, none⟩) r.length (cap - 1)) r := by
  obtain ⟨o, cap, cur, h1, h2, h3, h4, h5, h6, h7⟩ := h
  simp only [List.length_cons] at h1 h4 h7
  have e0 : ∀ j, (fcells (x :: r))[j]? = if j < (r.length + 1) * 2 then cur.toList[o + j]? else none := fun j => by
    rw [← h7, List.getElem?_take, List.getElem?_drop]
  refine ⟨o, cap, h1, ?_, ?_, h4, h5, ?_⟩
  · rw [cell_of_row w g o cur 74 (0, 0) h3]
    have := e0 0
    rw [if_pos (by omega)] at this
    simpa [fcells] using this.symm
  · rw [cell_of_row w g (o + 1) cur 74 (0, 0) h3]
    have := e0 1
    rw [if_pos (by omega)] at this
    simpa [fcells] using this.symm
  · by_cases hc : cap = 1
    · have hr : r = [] := List.eq_nil_of_length_eq_zero (by omega)
      subst hr
      exact ⟨o, cap - 1, cur, by rw [if_pos hc], h2, h3, by simp, by omega, by omega, by simp [fcells]⟩
    · refine ⟨o + 2, cap - 1, cur, by rw [if_neg hc], h2, h3, by omega, by omega, by omega, ?_⟩
      apply List.ext_getElem?
      intro j
      have := e0 (j + 2)
      rw [List.getElem?_take, List.getElem?_drop]
      simp only [fcells, List.getElem?_cons_succ] at this
      rw [this]
      by_cases hj : j < r.length * 2
      · rw [if_pos hj, if_pos (by omega), Nat.add_assoc, Nat.add_comm 2 j]
      · rw [if_neg hj, if_neg (by omega)]
end
/-- append onto the queue -/
theorem run_app_que (w : World) (ty : TypeId) (B g : Nat) (v : Value) (r : List (Nat × ByteArray)) (hown : QueV w B g v r) (x : Nat × ByteArray) (n : Nat)
    (hblk : w.heap[n]? = some (.cells #[.int .i64 x.1, .string x.2] 74 (0, 0))) (hb : r.length + 1 ≤ 4294967296) (hB : B ≤ w.heap.size) :
    ∃ g' v' w', (Builtin.append_ #[75, 75] ty #[v, .slice (some ⟨n, 0, none⟩) 1 1]).run Tryd.prog w = .ok v' w' ∧ QueV w' B g' v' (r ++ [x]) ∧ w.grownBy w' (some g) ∧ (g' = g ∨ w.heap.size ≤ g') := by
  obtain ⟨i0, hi, hz0, hz1, hz2⟩ := info_parts infoFound
  obtain ⟨o, cap, cur, rfl, hbg, hg, hlc, hcm, hfit, htake⟩ := hown
  have hnews : ∀ j u, [Value.int .i64 x.1, Value.string x.2][j]? = some u → w.cell? ((⟨n, 0, none⟩ : Addr).add j) = some u := by
    intro j u hj
    have : (⟨n, 0, none⟩ : Addr).add j = ⟨n, j, none⟩ := by unfold Addr.add; split <;> simp_all
    rw [this, cell_of_row w n j _ 74 (0, 0) hblk]
    simpa using hj
  have h1 : ∀ u ∈ [Value.int .i64 (x.1 : Int), Value.string x.2], u.oneCell' = true := by
    intro u hu
    simp at hu
    rcases hu with rfl | rfl <;> rfl
  have hlen : (r ++ [x]).length = r.length + 1 := by simp
  by_cases hroom : r.length + 1 ≤ cap
  · have hf := run_firstCells_some (P := Tryd.prog) w i0.size 1 ⟨n, 0, none⟩ 1 1 [Value.int .i64 x.1, Value.string x.2] (by rw [hz1]; rfl) hnews
    have hst := run_storeCells_at Tryd.prog g (o + r.length * i0.size) 74 [Value.int .i64 x.1, Value.string x.2] 0 cur w hg (by rw [hz1]; simp; omega) h1
    simp only [Nat.add_zero] at hst
    refine ⟨g, .slice (some ⟨g, o, none⟩) (r.length + 1) cap, w.setRow g (cur.toList.take (o + r.length * i0.size) ++ [Value.int .i64 x.1, Value.string x.2] ++ cur.toList.drop (o + r.length * i0.size + 2)).toArray, ?_, ?_, ?_, .inl rfl⟩
    · simp [Builtin.append_, run_underlying Tryd.underlying75, sizeOf, typeInfo, hi, Builtin.lenOf, hroom, hf, Addr.add_lit, hst]
    · rw [hz1]
      refine ⟨o, cap, _, by rw [hlen], hbg, setRow_heap w g cur _ 74 _ hg, by rw [hlen]; exact hroom, hcm, ?_, ?_⟩
      · simp only [List.size_toArray, List.length_append, List.length_take, List.length_drop, Array.length_toList, List.length_cons, List.length_nil]
        omega
      · rw [hlen, fcells_append, ← htake]
        simp only [List.append_assoc]
        rw [List.drop_append_of_le_length (by simp; omega), List.drop_take, show o + r.length * 2 - o = r.length * 2 by omega]
        rw [List.take_append, List.take_of_length_le (by simp; omega)]
        congr 1
        rw [show (r.length + 1) * 2 - ((cur.toList.drop o).take (r.length * 2)).length = 2 by simp; omega]
        rfl
    · exact ⟨rfl, rfl, rfl, by simp, fun k _ hk => setRow_other w g k _ (fun e => hk (by simp [e]))⟩
  · have holds : ∀ j u, (fcells r)[j]? = some u → w.cell? ((⟨g, o, none⟩ : Addr).add j) = some u := by
      intro j u hj
      have ha : (⟨g, o, none⟩ : Addr).add j = ⟨g, o + j, none⟩ := by unfold Addr.add; split <;> simp_all
      rw [ha, cell_of_row w g (o + j) cur 74 (0, 0) hg]
      rw [← htake, List.getElem?_take, List.getElem?_drop] at hj
      split at hj
      · simpa using hj
      · cases hj
    obtain ⟨v', w', hr, hrow, hgr⟩ := run_append_arg_grows (P := Tryd.prog) w 75 ty 74 i0 _ 2 24 Tryd.underlying75 hi hz0 hz1 hz2 rfl (by decide) ⟨g, o, none⟩ r.length cap (fcells r) (fcells_len r) holds ⟨n, 0, none⟩ 1 1 [Value.int .i64 x.1, Value.string x.2] rfl hnews (by omega) (by unfold maxLen; omega) (by omega)
    rcases hrow.2 with ⟨_, h0⟩ | ⟨g', cap', cur', rfl, hg1, hg2, hg3, hg4, hg5, hg6⟩
    · omega
    · refine ⟨g', _, w', hr, ⟨0, cap', cur', by rw [hlen], by omega, hg2, by rw [hlen]; exact hg3, hg4, by omega, ?_⟩, ⟨hgr.os, hgr.tape, hgr.output, hgr.size, fun k hk _ => hgr.block k hk (by simp)⟩, .inr hg1⟩
      rw [List.drop_zero, hlen, hg6, fcells_append]
      rfl
theorem wp_app_que {w : World} {o : Oper} {a : Act} {K : Act → World → Prop} {Q : Exit → Act → World → Prop} (s x : Operand)
    (ho : o.op = .call { callee := .builtin .append, args := #[s, x], argTypes := #[75, 75] })
    (B g : Nat) (v : Value) (r : List (Nat × ByteArray)) (hs : a.eval s = v) (hown : QueV w B g v r) (y : Nat × ByteArray)
    (n : Nat) (hx : a.eval x = .slice (some ⟨n, 0, none⟩) 1 1) (hblk : w.heap[n]? = some (.cells #[.int .i64 y.1, .string y.2] 74 (0, 0)))
    (hb : r.length + 1 ≤ 4294967296) (hbase : B ≤ w.heap.size)
    (h : ∀ g' v' w', QueV w' B g' v' (r ++ [y]) → w.grownBy w' (some g) → (g' = g ∨ w.heap.size ≤ g') → K (a.put o.dst v') w') : o.wp Tryd.prog a w K Q := by
  obtain ⟨g', v', w', hr, h2, h3, h4⟩ := run_app_que w o.type B g v r hown y n hblk hb hbase
  unfold Oper.wp execOp
  simp only [ho, resolve, invoke, builtin, Sem.run_bind, Sem.run_pure, Result.andThen_ok, List.map_toArray, List.map_cons, List.map_nil, hs, hx, hr]
  exact h g' v' w' h2 h3 h4
theorem step_app_que {w : World} {ops : Array Oper} {o : Oper} {a : Act} {K : Act → World → Prop} {Q : Exit → Act → World → Prop} {E : Prop} (hgd : o.guard = none) (s x : Operand)
    (ho : o.op = .call { callee := .builtin .append, args := #[s, x], argTypes := #[75, 75] })
    (B g : Nat) (v : Value) (r : List (Nat × ByteArray)) (hs : a.eval s = v) (hown : QueV w B g v r) (y : Nat × ByteArray)
    (n : Nat) (hx : a.eval x = .slice (some ⟨n, 0, none⟩) 1 1) (hblk : w.heap[n]? = some (.cells #[.int .i64 y.1, .string y.2] 74 (0, 0)))
    (hb : r.length + 1 ≤ 4294967296) (hbase : B ≤ w.heap.size)
    (h : ∀ g' v' w', QueV w' B g' v' (r ++ [y]) → w.grownBy w' (some g) → (g' = g ∨ w.heap.size ≤ g') → K (a.put o.dst v') w') :
    if Region.wanted o (yielded ops a.tmps) = true then Oper.wp Tryd.prog o a w K Q else E := by
  have hw : Region.wanted o (yielded ops a.tmps) = true := by simp [Region.wanted, hgd]
  rw [if_pos hw]
  exact wp_app_que s x ho B g v r hs hown y n hx hblk hb hbase h
/-- the box of a variable of type []found -/
def VarQ (w : World) (Q : Nat) (v : Value) : Prop := w.heap[Q]? = some (.cells #[v] 75 (0, 0))
/-- a struct of the search -/
def BoxF (w : World) (X : Nat) (x : Nat × ByteArray) : Prop := w.heap[X]? = some (.cells #[.int .i64 x.1, .string x.2] 74 (0, 0))
section
variable {w w' : World} {Q X B g : Nat} {v : Value} {x : Nat × ByteArray} {r : List (Nat × ByteArray)}
theorem VarQ.lt (h : VarQ w Q v) : Q < w.heap.size := (Array.getElem?_eq_some_iff.1 h).1
theorem VarQ.cell (h : VarQ w Q v) : w.cell? ⟨Q, 0, none⟩ = some v := by rw [cell_of_row w Q 0 _ _ _ h]; rfl
theorem VarQ.free_ (h : VarQ w Q v) : w.frozen? ⟨Q, 0, none⟩ = false := by unfold VarQ at h; simp [World.frozen?, h]
theorem VarQ.set_ (h : VarQ w Q v) (u : Value) : VarQ (w.setCell ⟨Q, 0, none⟩ u) Q u := by
  unfold VarQ at h ⊢
  simp [World.setCell, Array.getElem?_modify, h]
theorem BoxF.lt (h : BoxF w X x) : X < w.heap.size := (Array.getElem?_eq_some_iff.1 h).1
theorem BoxF.c0 (h : BoxF w X x) : w.cell? ⟨X, 0, none⟩ = some (.int .i64 x.1) := by rw [cell_of_row w X 0 _ _ _ h]; rfl
theorem BoxF.c1 (h : BoxF w X x) : w.cell? ⟨X, 1, none⟩ = some (.string x.2) := by rw [cell_of_row w X 1 _ _ _ h]; rfl
theorem que_ne_var (h : QueV w B g v r) {u : Value} (hq : VarQ w Q u) : Q ≠ g := by
  rintro rfl
  obtain ⟨o, cap, cur, _, _, hg, _⟩ := h
  unfold VarQ at hq
  rw [hq] at hg
  simp at hg
theorem box_ne_var (h : BoxF w X x) {u : Value} (hq : VarQ w Q u) : X ≠ Q := by
  rintro rfl
  unfold BoxF at h
  unfold VarQ at hq
  rw [hq] at h
  simp at h
theorem que_ne_map {M : Nat} {S : List Nat} (h : QueV w B g v r) (hm : SeenV w M S) : some M ≠ some g := by
  intro e
  cases e
  obtain ⟨o, cap, cur, _, _, hg, _⟩ := h
  obtain ⟨es, clock, h0⟩ := hm.obj
  rw [h0] at hg
  cases hg
theorem var_ne_map {M : Nat} {S : List Nat} (h : VarQ w Q v) (hm : SeenV w M S) : M ≠ Q := by
  rintro rfl
  obtain ⟨es, clock, h0⟩ := hm.obj
  unfold VarQ at h
  rw [h0] at h
  cases h
theorem box_ne_map {M : Nat} {S : List Nat} (h : BoxF w X x) (hm : SeenV w M S) : some X ≠ some M := by
  intro e
  cases e
  obtain ⟨es, clock, h0⟩ := hm.obj
  unfold BoxF at h
  rw [h0] at h
  cases h
theorem SeenV.setCell {M : Nat} {S : List Nat} (h : SeenV w M S) {a : Addr} (ha : M ≠ a.block) (u : Value) : SeenV (w.setCell a u) M S := by
  obtain ⟨D, h1, h2⟩ := h
  exact ⟨D, h1.setCell ha u, h2⟩
theorem QueV.setCell (h : QueV w B g v r) {a : Addr} (ha : g ≠ a.block) (u : Value) : QueV (w.setCell a u) B g v r := h.move (Below.heap_setCell w a u g ha)
end
/-- what the closure hands on of the boxes of an automaton -/
def KeepA (w w' : World) : Prop := ∀ (j : Nat) (c : Array Value), w.heap[j]? = some (Obj.cells c 24 (0, 0)) → w'.heap[j]? = some (Obj.cells c 24 (0, 0))
end Go.Proofs.YtmokccidpnpimaaDoor
