import Derived.Test.YtpppbkdbpbpinaaGreatDoorG15
import Derived.ArgAppend
set_option linter.unusedSimpArgs false
set_option linter.unusedVariables false
/- The queue of the search: a row of structs that the call itself makes, with what was taken off its head. -/
set_option linter.unusedVariables false
namespace Go.Proofs.YtpppbkdbpbpinaaGreatDoor
open Go.RowKit Go.Maps
theorem infoFound : (Tryz.prog.info? 148).map (fun i => (i.zero, i.size, i.bytes)) = some (some (.agg #[.int .i64 0, .string ⟨#[]⟩]), 2, 24) := by kernel_rfl
def fcells : List (Nat × ByteArray) → List Value
  | [] => []
  | x :: r => .int .i64 x.1 :: .string x.2 :: fcells r
theorem fcells_len : ∀ r, (fcells r).length = r.length * 2
  | [] => rfl
  | x :: r => by simp [fcells, fcells_len r]; omega
theorem fcells_append : ∀ r s, fcells (r ++ s) = fcells r ++ fcells s
  | [], s => rfl
  | x :: r, s => by simp [fcells, fcells_append r s]
/-- the slice value v holds r, in the block g of the call's own -/
def QueV (w : World) (B g : Nat) (v : Value) (r : List (Nat × ByteArray)) : Prop :=
  ∃ o cap cur, v = .slice (some ⟨g, o, none⟩) r.length cap ∧ B ≤ g ∧ w.heap[g]? = some (.cells cur 148 (0, 0)) ∧ r.length ≤ cap ∧ cap ≤ maxLen ∧ o + cap * 2 ≤ cur.size ∧ (cur.toList.drop o).take (r.length * 2) = fcells r
section
variable {w w' : World} {B g : Nat} {v : Value} {r : List (Nat × ByteArray)}
theorem QueV.lt (h : QueV w B g v r) : g < w.heap.size := by
  obtain ⟨o, cap, cur, _, _, hg, _⟩ := h
  exact (Array.getElem?_eq_some_iff.1 hg).1
theorem QueV.ge (h : QueV w B g v r) : B ≤ g := by
  obtain ⟨o, cap, cur, _, hb, _⟩ := h
  exact hb
theorem QueV.move (h : QueV w B g v r) (hh : w'.heap[g]? = w.heap[g]?) : QueV w' B g v r := by
  obtain ⟨o, cap, cur, h1, h2, h3, h4⟩ := h
  exact ⟨o, cap, cur, h1, h2, hh.trans h3, h4⟩
theorem QueV.kept {row : Option Nat} (h : QueV w B g v r) (hg : w.grownBy w' row) (hne : some g ≠ row) : QueV w' B g v r := h.move (hg.block g h.lt hne)
theorem QueV.alloc (h : QueV w B g v r) (o : Obj) : QueV (w.alloc o) B g v r := h.kept (World.grownBy_alloc w o none) (by simp)
theorem QueV.drew (h : QueV w B g v r) : QueV w.drew B g v r := h
theorem QueV.below {C : Nat} (h : QueV w B g v r) (hb : Below C w w') (hc : w.heap.size ≤ C) : QueV w' B g v r := h.move (hb.block g (Nat.lt_of_lt_of_le h.lt hc))
theorem QueV.one_ {n : Nat} (hn : w.heap.size = n) (hB : B ≤ n) (S : Nat) (s : ByteArray) : QueV (w.alloc (.cells #[.int .i64 S, .string s] 148)) B n (.slice (some ⟨n, 0, none⟩) 1 1) [(S, s)] := by
  subst hn
  exact ⟨0, 1, _, rfl, hB, heap_alloc_new w _, Nat.le_refl _, by unfold maxLen; omega, by simp, rfl⟩
/-- the head can be read -/
theorem QueV.head {x : Nat × ByteArray} (h : QueV w B g v (x :: r)) : ∃ o cap, v = .slice (some ⟨g, o, none⟩) (r.length + 1) cap ∧ w.cell? ⟨g, o, none⟩ = some (.int .i64 x.1) ∧ w.cell? ⟨g, o + 1, none⟩ = some (.string x.2) ∧ r.length + 1 ≤ cap ∧ cap ≤ maxLen ∧
    QueV w B g (.slice (some ⟨g, if cap = 1 then o else o + 2, none⟩) r.length (cap - 1)) r := by
  obtain ⟨o, cap, cur, h1, h2, h3, h4, h5, h6, h7⟩ := h
  simp only [List.length_cons] at h1 h4 h7
  have e0 : ∀ j, (fcells (x :: r))[j]? = if j < (r.length + 1) * 2 then cur.toList[o + j]? else none := fun j => by
    rw [← h7, List.getElem?_take, List.getElem?_drop]
  refine ⟨o, cap, h1, ?_, ?_, h4, h5, ?_⟩
  · rw [cell_of_row w g o cur 148 (0, 0) h3]
    have := e0 0
    rw [if_pos (by omega)] at this
    simpa [fcells] using this.symm
  · rw [cell_of_row w g (o + 1) cur 148 (0, 0) h3]
    have := e0 1
    rw [if_pos (by omega)] at this
    simpa [fcells] using this.symm
  · by_cases hc : cap = 1
    · have hr : r = [] := List.eq_nil_of_length_eq_zero (by omega)
      subst hr
      exact ⟨o, cap - 1, cur, by rw [if_pos hc], h2, h3, by simp, by omega, by omega, by simp [fcells]⟩
    · refine ⟨o + 2, cap - 1, cur, by rw [if_neg hc], h2, h3, by omega, by omega, by omega, ?_⟩
      apply List.ext_getElem?
      intro j
      have := e0 (j + 2)
      rw [List.getElem?_take, List.getElem?_drop]
      simp only [fcells, List.getElem?_cons_succ] at this
      rw [this]
      by_cases hj : j < r.length * 2
      · rw [if_pos hj, if_pos (by omega), Nat.add_assoc, Nat.add_comm 2 j]
      · rw [if_neg hj, if_neg (by omega)]
end
set_option maxRecDepth 100000 in
/-- append onto the queue -/
theorem run_app_que (w : World) (ty : TypeId) (B g : Nat) (v : Value) (r : List (Nat × ByteArray)) (hown : QueV w B g v r) (x : Nat × ByteArray) (n : Nat)
    (hblk : w.heap[n]? = some (.cells #[.int .i64 x.1, .string x.2] 148 (0, 0))) (hb : r.length + 1 ≤ 4294967296) (hB : B ≤ w.heap.size) :
    ∃ g' v' w', (Builtin.append_ #[149, 149] ty #[v, .slice (some ⟨n, 0, none⟩) 1 1]).run Tryz.prog w = .ok v' w' ∧ QueV w' B g' v' (r ++ [x]) ∧ w.grownBy w' (some g) ∧ (g' = g ∨ w.heap.size ≤ g') := by
  obtain ⟨i0, hi, hz0, hz1, hz2⟩ := info_parts infoFound
  obtain ⟨o, cap, cur, rfl, hbg, hg, hlc, hcm, hfit, htake⟩ := hown
  have hnews : ∀ j u, [Value.int .i64 x.1, Value.string x.2][j]? = some u → w.cell? ((⟨n, 0, none⟩ : Addr).add j) = some u := by
    intro j u hj
    have : (⟨n, 0, none⟩ : Addr).add j = ⟨n, j, none⟩ := by unfold Addr.add; split <;> simp_all
    rw [this, cell_of_row w n j _ 148 (0, 0) hblk]
    simpa using hj
  have h1 : ∀ u ∈ [Value.int .i64 (x.1 : Int), Value.string x.2], u.oneCell' = true := by
    intro u hu
    simp at hu
    rcases hu with rfl | rfl <;> rfl
  have hlen : (r ++ [x]).length = r.length + 1 := by simp
  by_cases hroom : r.length + 1 ≤ cap
  · have hf := run_firstCells_some (P := Tryz.prog) w i0.size 1 ⟨n, 0, none⟩ 1 1 [Value.int .i64 x.1, Value.string x.2] (by rw [hz1]; rfl) hnews
    have hst := run_storeCells_at Tryz.prog g (o + r.length * i0.size) 148 [Value.int .i64 x.1, Value.string x.2] 0 cur w hg (by rw [hz1]; simp; omega) h1
    simp only [Nat.add_zero] at hst
    refine ⟨g, .slice (some ⟨g, o, none⟩) (r.length + 1) cap, w.setRow g (cur.toList.take (o + r.length * i0.size) ++ [Value.int .i64 x.1, Value.string x.2] ++ cur.toList.drop (o + r.length * i0.size + 2)).toArray, ?_, ?_, ?_, .inl rfl⟩
    · simp [Builtin.append_, run_underlying Tryz.underlying149, sizeOf, typeInfo, hi, Builtin.lenOf, hroom, hf, Addr.add_lit, hst]
    · rw [hz1]
      refine ⟨o, cap, _, by rw [hlen], hbg, setRow_heap w g cur _ 148 _ hg, by rw [hlen]; exact hroom, hcm, ?_, ?_⟩
      · simp only [List.size_toArray, List.length_append, List.length_take, List.length_drop, Array.length_toList, List.length_cons, List.length_nil]
        omega
      · rw [hlen, fcells_append, ← htake]
        simp only [List.append_assoc]
        rw [List.drop_append_of_le_length (by simp; omega), List.drop_take, show o + r.length * 2 - o = r.length * 2 by omega]
        rw [List.take_append, List.take_of_length_le (by simp; omega)]
        congr 1
        rw [show (r.length + 1) * 2 - ((cur.toList.drop o).take (r.length * 2)).length = 2 by simp; omega]
        rfl
    · exact ⟨rfl, rfl, rfl, by simp, fun k _ hk => setRow_other w g k _ (fun e => hk (by simp [e]))⟩
  · have holds : ∀ j u, (fcells r)[j]? = some u → w.cell? ((⟨g, o, none⟩ : Addr).add j) = some u := by
      intro j u hj
      have ha : (⟨g, o, none⟩ : Addr).add j = ⟨g, o + j, none⟩ := by unfold Addr.add; split <;> simp_all
      rw [ha, cell_of_row w g (o + j) cur 148 (0, 0) hg]
      rw [← htake, List.getElem?_take, List.getElem?_drop] at hj
      split at hj
      · simpa using hj
      · cases hj
    obtain ⟨v', w', hr, hrow, hgr⟩ := run_append_arg_grows (P := Tryz.prog) w 149 ty 148 i0 _ 2 24 Tryz.underlying149 hi hz0 hz1 hz2 rfl (by decide) ⟨g, o, none⟩ r.length cap (fcells r) (fcells_len r) holds ⟨n, 0, none⟩ 1 1 [Value.int .i64 x.1, Value.string x.2] rfl hnews (by omega) (by unfold maxLen; omega) (by omega)
    rcases hrow.2 with ⟨_, h0⟩ | ⟨g', cap', cur', rfl, hg1, hg2, hg3, hg4, hg5, hg6⟩
    · omega
    · refine ⟨g', _, w', hr, ⟨0, cap', cur', by rw [hlen], by omega, hg2, by rw [hlen]; exact hg3, hg4, by omega, ?_⟩, ⟨hgr.os, hgr.tape, hgr.output, hgr.size, fun k hk _ => hgr.block k hk (by simp)⟩, .inr hg1⟩
      rw [List.drop_zero, hlen, hg6, fcells_append]
      rfl
theorem wp_app_que {w : World} {o : Oper} {a : Act} {K : Act → World → Prop} {Q : Exit → Act → World → Prop} (s x : Operand)
    (ho : o.op = .call { callee := .builtin .append, args := #[s, x], argTypes := #[149, 149] })
    (B g : Nat) (v : Value) (r : List (Nat × ByteArray)) (hs : a.eval s = v) (hown : QueV w B g v r) (y : Nat × ByteArray)
    (n : Nat) (hx : a.eval x = .slice (some ⟨n, 0, none⟩) 1 1) (hblk : w.heap[n]? = some (.cells #[.int .i64 y.1, .string y.2] 148 (0, 0)))
    (hb : r.length + 1 ≤ 4294967296) (hbase : B ≤ w.heap.size)
    (h : ∀ g' v' w', QueV w' B g' v' (r ++ [y]) → w.grownBy w' (some g) → (g' = g ∨ w.heap.size ≤ g') → K (a.put o.dst v') w') : o.wp Tryz.prog a w K Q := by
  obtain ⟨g', v', w', hr, h2, h3, h4⟩ := run_app_que w o.type B g v r hown y n hblk hb hbase
  unfold Oper.wp execOp
  simp only [ho, resolve, invoke, builtin, Sem.run_bind, Sem.run_pure, Result.andThen_ok, List.map_toArray, List.map_cons, List.map_nil, hs, hx, hr]
  exact h g' v' w' h2 h3 h4
theorem step_app_que {w : World} {ops : Array Oper} {o : Oper} {a : Act} {K : Act → World → Prop} {Q : Exit → Act → World → Prop} {E : Prop} (hgd : o.guard = none) (s x : Operand)
    (ho : o.op = .call { callee := .builtin .append, args := #[s, x], argTypes := #[149, 149] })
    (B g : Nat) (v : Value) (r : List (Nat × ByteArray)) (hs : a.eval s = v) (hown : QueV w B g v r) (y : Nat × ByteArray)
    (n : Nat) (hx : a.eval x = .slice (some ⟨n, 0, none⟩) 1 1) (hblk : w.heap[n]? = some (.cells #[.int .i64 y.1, .string y.2] 148 (0, 0)))
    (hb : r.length + 1 ≤ 4294967296) (hbase : B ≤ w.heap.size)
    (h : ∀ g' v' w', QueV w' B g' v' (r ++ [y]) → w.grownBy w' (some g) → (g' = g ∨ w.heap.size ≤ g') → K (a.put o.dst v') w') :
    if Region.wanted o (yielded ops a.tmps) = true then Oper.wp Tryz.prog o a w K Q else E := by
  have hw : Region.wanted o (yielded ops a.tmps) = true := by simp [Region.wanted, hgd]
  rw [if_pos hw]
  exact wp_app_que s x ho B g v r hs hown y n hx hblk hb hbase h
/-- the box of a variable of type []found -/
def VarQ (w : World) (Q : Nat) (v : Value) : Prop := w.heap[Q]? = some (.cells #[v] 149 (0, 0))
/-- a struct of the search -/
def BoxF (w : World) (X : Nat) (x : Nat × ByteArray) : Prop := w.heap[X]? = some (.cells #[.int .i64 x.1, .string x.2] 148 (0, 0))
section
variable {w w' : World} {Q X B g : Nat} {v : Value} {x : Nat × ByteArray} {r : List (Nat × ByteArray)}
theorem VarQ.lt (h : VarQ w Q v) : Q < w.heap.size := (Array.getElem?_eq_some_iff.1 h).1
theorem VarQ.cell (h : VarQ w Q v) : w.cell? ⟨Q, 0, none⟩ = some v := by rw [cell_of_row w Q 0 _ _ _ h]; rfl
theorem VarQ.free_ (h : VarQ w Q v) : w.frozen? ⟨Q, 0, none⟩ = false := by unfold VarQ at h; simp [World.frozen?, h]
theorem VarQ.set_ (h : VarQ w Q v) (u : Value) : VarQ (w.setCell ⟨Q, 0, none⟩ u) Q u := by
  unfold VarQ at h ⊢
  simp [World.setCell, Array.getElem?_modify, h]
theorem BoxF.lt (h : BoxF w X x) : X < w.heap.size := (Array.getElem?_eq_some_iff.1 h).1
theorem BoxF.c0 (h : BoxF w X x) : w.cell? ⟨X, 0, none⟩ = some (.int .i64 x.1) := by rw [cell_of_row w X 0 _ _ _ h]; rfl
theorem BoxF.c1 (h : BoxF w X x) : w.cell? ⟨X, 1, none⟩ = some (.string x.2) := by rw [cell_of_row w X 1 _ _ _ h]; rfl
theorem que_ne_var (h : QueV w B g v r) {u : Value} (hq : VarQ w Q u) : Q ≠ g := by
  rintro rfl
  obtain ⟨o, cap, cur, _, _, hg, _⟩ := h
  unfold VarQ at hq
  rw [hq] at hg
  simp at hg
theorem box_ne_var (h : BoxF w X x) {u : Value} (hq : VarQ w Q u) : X ≠ Q := by
  rintro rfl
  unfold BoxF at h
  unfold VarQ at hq
  rw [hq] at h
  simp at h
theorem que_ne_map {M : Nat} {S : List Nat} (h : QueV w B g v r) (hm : SeenV w M S) : some M ≠ some g := by
  intro e
  cases e
  obtain ⟨o, cap, cur, _, _, hg, _⟩ := h
  obtain ⟨es, clock, h0⟩ := hm.obj
  rw [h0] at hg
  cases hg
theorem var_ne_map {M : Nat} {S : List Nat} (h : VarQ w Q v) (hm : SeenV w M S) : M ≠ Q := by
  rintro rfl
  obtain ⟨es, clock, h0⟩ := hm.obj
  unfold VarQ at h
  rw [h0] at h
  cases h
theorem box_ne_map {M : Nat} {S : List Nat} (h : BoxF w X x) (hm : SeenV w M S) : some X ≠ some M := by
  intro e
  cases e
  obtain ⟨es, clock, h0⟩ := hm.obj
  unfold BoxF at h
  rw [h0] at h
  cases h
theorem SeenV.setCell {M : Nat} {S : List Nat} (h : SeenV w M S) {a : Addr} (ha : M ≠ a.block) (u : Value) : SeenV (w.setCell a u) M S := by
  obtain ⟨D, h1, h2⟩ := h
  exact ⟨D, h1.setCell ha u, h2⟩
theorem QueV.setCell (h : QueV w B g v r) {a : Addr} (ha : g ≠ a.block) (u : Value) : QueV (w.setCell a u) B g v r := h.move (Below.heap_setCell w a u g ha)
end
/-- what the closure hands on of the boxes of an automaton -/
def KeepA (w w' : World) : Prop := ∀ (j : Nat) (c : Array Value), w.heap[j]? = some (Obj.cells c 24 (0, 0)) → w'.heap[j]? = some (Obj.cells c 24 (0, 0))
end Go.Proofs.YtpppbkdbpbpinaaGreatDoor

/- reset.search$1: the closure that puts a set at the end of the queue. -/
set_option linter.unusedVariables false
namespace Go.Proofs.YtpppbkdbpbpinaaGreatDoor
open Go.RowKit Go.Maps
theorem QueV.shape {w : World} {B g : Nat} {v : Value} {r : List (Nat × ByteArray)} (h : QueV w B g v r) : ∃ a n c, v = .slice a n c := by
  obtain ⟨o, cap, cur, h1, _⟩ := h
  exact ⟨_, _, _, h1⟩
set_option maxRecDepth 100000 in
set_option maxHeartbeats 4000000 in
theorem zsearchf_any (k y : Nat) (x : Nat × ByteArray) (r : List (Nat × ByteArray)) (B g Q X : Nat) (v : Value) (w : World) (hk : k < 16) (hx : x.2.size ≤ 64) (hr : r.length ≤ 4096)
    (hQ : VarQ w Q v) (hX : BoxF w X x) (hv : QueV w B g v r) (hgX : g ≠ X) (hB : B ≤ w.heap.size) (hBQ : B ≤ Q) :
    Calls Tryz.prog 117 #[.int .i64 k, .int .i64 y, .pointer (some ⟨Q, 0, none⟩), .pointer (some ⟨X, 0, none⟩)] w fun e w' => e = .returned (.tuple #[]) ∧
      (∃ g' v', VarQ w' Q v' ∧ BoxF w' X x ∧ QueV w' B g' v' (r ++ [(y, x.2 ++ ltr k)]) ∧ g' ≠ X) ∧ (∀ M S, SeenV w M S → SeenV w' M S) ∧ KeepA w w' ∧ Below B w w' := by
  have c1 := hX.c1
  have cQ := hQ.cell
  have lQ := hQ.lt
  have lX := hX.lt
  have q1 : IntKind.i64.wrap ((k : Int) + 1) = (k : Int) + 1 := IntWalk.i64_in _ (by omega)
  have q2 : ((k : Int) + 1).toNat = k + 1 := by omega
  have q3 : (0 : Int) ≤ (k : Int) + 1 := by omega
  have q4 : (k : Int) + 1 ≤ 16 := by omega
  have q5 : (0 : Int) ≤ (k : Int) := by omega
  have q6 : (k : Int) ≤ (k : Int) + 1 := by omega
  have q7 : ¬ 9223372036854775807 < x.2.size + (min (k + 1) 16 - k) := by omega
  have lq := hv.lt
  have hvW : QueV (w.drew.alloc (Obj.cells #[.int .i64 y, .string (x.2 ++ ltr k)] 148)) B g v r := (QueV.drew hv).alloc _
  have hQW : VarQ (w.drew.alloc (Obj.cells #[.int .i64 y, .string (x.2 ++ ltr k)] 148)) Q v := by unfold VarQ; rw [heap_alloc_old w.drew _ lQ]; exact hQ
  have hXW : BoxF (w.drew.alloc (Obj.cells #[.int .i64 y, .string (x.2 ++ ltr k)] 148)) X x := by unfold BoxF; rw [heap_alloc_old w.drew _ lX]; exact hX
  have hQg := que_ne_var hv hQ
  have hXQ := box_ne_var hX hQ
  have HQ := hide hQ
  have HX := hide hX
  have HV := hide hv
  have HE : Hid (∀ (g' : Nat) (u : Value) (w2 : World), QueV w2 B g' u (r ++ [(y, x.2 ++ ltr k)]) → (w.drew.alloc (Obj.cells #[.int .i64 y, .string (x.2 ++ ltr k)] 148)).grownBy w2 (some g) → (g' = g ∨ (w.drew.alloc (Obj.cells #[.int .i64 y, .string (x.2 ++ ltr k)] 148)).heap.size ≤ g') → VarQ w2 Q v →
      (∃ g' v', VarQ (w2.setCell ⟨Q, 0, none⟩ u) Q v' ∧ BoxF (w2.setCell ⟨Q, 0, none⟩ u) X x ∧ QueV (w2.setCell ⟨Q, 0, none⟩ u) B g' v' (r ++ [(y, x.2 ++ ltr k)]) ∧ g' ≠ X) ∧ (∀ M S, SeenV w M S → SeenV (w2.setCell ⟨Q, 0, none⟩ u) M S) ∧ KeepA w (w2.setCell ⟨Q, 0, none⟩ u) ∧ Below B w (w2.setCell ⟨Q, 0, none⟩ u)) := by
    refine hide fun g' u w2 hv2 hg2 hgg hQ2 => ?_
    have hs : (w.drew.alloc (Obj.cells #[.int .i64 y, .string (x.2 ++ ltr k)] 148)).heap.size = w.heap.size + 1 := by simp
    rw [hs] at hgg
    have hX2 : BoxF w2 X x := (hg2.block X (by rw [hs]; omega) (by simp; exact fun e => hgX e.symm)).trans hXW
    have hQg' : Q ≠ g' := que_ne_var hv2 hQ2
    refine ⟨⟨g', u, hQ2.set_ u, (Below.heap_setCell w2 ⟨Q, 0, none⟩ u X hXQ).trans hX2, hv2.setCell (fun e => hQg' e.symm) u, by omega⟩, fun M S hM => ?_, fun j c hj => ?_, ?_⟩
    · have hM1 : SeenV (w.drew.alloc (Obj.cells #[.int .i64 y, .string (x.2 ++ ltr k)] 148)) M S := (SeenV.drew hM).alloc _
      exact (hM1.kept hg2 (que_ne_map hvW hM1)).setCell (var_ne_map HQ.out hM) u
    · have hjl : j < w.heap.size := (Array.getElem?_eq_some_iff.1 hj).1
      have hjQ : j ≠ Q := by
        rintro rfl
        have := HQ.out
        unfold VarQ at this
        rw [this] at hj
        simp at hj
      have hjg : j ≠ g := by
        rintro rfl
        obtain ⟨o, cap, cur, _, _, hg, _⟩ := HV.out
        rw [hg] at hj
        simp at hj
      rw [Below.heap_setCell w2 ⟨Q, 0, none⟩ u j hjQ, hg2.block j (by rw [hs]; omega) (by simpa using hjg), heap_alloc_old w.drew _ hjl]
      exact hj
    · refine Below.setCell (((Below.refl B w).drew.alloc (by simpa using hB) _).grown hg2 (by rw [hs]; omega) (fun j e => by cases e; exact HV.out.ge)) hBQ u
  go_enter Tryz.func117, Tryz.ntmps117
  go_wp2_with fail
  clear hQ hX hv
  have c1' : w.drew.cell? ⟨X, 1, none⟩ = some (.string x.2) := c1
  have cQ' : w.drew.cell? ⟨Q, 0, none⟩ = some v := cQ
  go_region_law (refine step_app_que (by rfl) (.tmp 6) (.tmp 16) (by rfl) B g _ r (by rfl) hvW (y, x.2 ++ ltr k) w.heap.size (by rfl) (heap_alloc_new w.drew _) (by omega) (by simp; omega) ?_; intro g' v' w2 hv2 hg2 hgg; obtain ⟨o', n', c', rfl⟩ := hv2.shape; have hQ2 : VarQ w2 Q v := (hg2.block Q (by simp; omega) (by simpa using hQg)).trans hQW; have cQ2 := hQ2.cell; have fQ2 := hQ2.free_)
  all_goals (
    go_end0
    exact ⟨rfl, HE.out g' _ w2 hv2 hg2 hgg hQ2⟩)
end Go.Proofs.YtpppbkdbpbpinaaGreatDoor

/- reset.fresh with the closure of search: its contract. -/
set_option linter.unusedVariables false
namespace Go.Proofs.YtpppbkdbpbpinaaGreatDoor
open Go.RowKit Go.Maps
/-- for which letters, and with which sets, fresh calls -/
def frK (rows : List (List Int)) (S : Nat) (seen : List Nat) : Nat → List (Nat × Nat)
  | 0 => []
  | c + 1 => if img rows S c ∈ seen ++ (frK rows S seen c).map (·.2) then frK rows S seen c else frK rows S seen c ++ [(c, img rows S c)]
theorem frK_yes {rows : List (List Int)} {S c : Nat} {seen : List Nat} (h : img rows S c ∈ seen ++ (frK rows S seen c).map (·.2)) : frK rows S seen (c + 1) = frK rows S seen c := by
  rw [show frK rows S seen (c + 1) = if img rows S c ∈ seen ++ (frK rows S seen c).map (·.2) then frK rows S seen c else frK rows S seen c ++ [(c, img rows S c)] from rfl, if_pos h]
theorem frK_no {rows : List (List Int)} {S c : Nat} {seen : List Nat} (h : img rows S c ∉ seen ++ (frK rows S seen c).map (·.2)) : frK rows S seen (c + 1) = frK rows S seen c ++ [(c, img rows S c)] := by
  rw [show frK rows S seen (c + 1) = if img rows S c ∈ seen ++ (frK rows S seen c).map (·.2) then frK rows S seen c else frK rows S seen c ++ [(c, img rows S c)] from rfl, if_neg h]
theorem frK_len {rows : List (List Int)} {S : Nat} {seen : List Nat} : ∀ c, (frK rows S seen c).length ≤ c
  | 0 => Nat.le_refl _
  | c + 1 => by
    have := frK_len (rows := rows) (S := S) (seen := seen) c
    by_cases h : img rows S c ∈ seen ++ (frK rows S seen c).map (·.2)
    · rw [frK_yes h]; omega
    · rw [frK_no h, List.length_append]; simp; omega
/-- what was seen, and what was called with -/
def snd (l : List (Nat × Nat)) : List Nat := l.map (·.2)
/-- the box of an automaton -/
def BoxA (w : World) (N : Nat) (L : Int) (A : Option Addr) (n cc : Nat) : Prop := w.heap[N]? = some (.cells #[.int .i64 L, .slice A n cc] 24 (0, 0))
theorem BoxA.c0 {w : World} {N : Nat} {L : Int} {A : Option Addr} {n cc : Nat} (h : BoxA w N L A n cc) : w.cell? ⟨N, 0, none⟩ = some (.int .i64 L) := by rw [cell_of_row w N 0 _ _ _ h]; rfl
theorem BoxA.c1 {w : World} {N : Nat} {L : Int} {A : Option Addr} {n cc : Nat} (h : BoxA w N L A n cc) : w.cell? ⟨N, 1, none⟩ = some (.slice A n cc) := by rw [cell_of_row w N 1 _ _ _ h]; rfl
theorem BoxA.lt {w : World} {N : Nat} {L : Int} {A : Option Addr} {n cc : Nat} (h : BoxA w N L A n cc) : N < w.heap.size := (Array.getElem?_eq_some_iff.1 h).1
theorem boxA_ne_map {w : World} {N M : Nat} {L : Int} {S : List Nat} {A : Option Addr} {n cc : Nat} (h : BoxA w N L A n cc) (hm : SeenV w M S) : some N ≠ some M := by
  intro e
  cases e
  obtain ⟨es, clock, h0⟩ := hm.obj
  unfold BoxA at h
  rw [h0] at h
  cases h
set_option maxRecDepth 100000 in
set_option maxHeartbeats 4000000 in
theorem zfresh_any (rows : List (List Int)) (L S : Nat) (A : Option Addr) (cc : Nat) (M B Q X : Nat) (seen : List Nat) (I : World → List (Nat × Nat) → Prop) (w : World) (hA : Aut rows L) (hS : S < 2 ^ rows.length)
    (hRT : ∀ W, Below B w W → RowD W A rows ∧ TabZ W) (hBM : B ≤ M) (hB : B ≤ w.heap.size) (hM : SeenV w M seen) (hI : I w []) (hlen : seen.length ≤ 100000)
    (hk1 : ∀ W W' l, I W l → Below W.heap.size W W' → I W' l)
    (hk2 : ∀ W W' l T, SeenV W M T → I W l → W.grownBy W' (some M) → I W' l)
    (hc : ∀ W l k y, I W l → k < L → l.length ≤ k → y < 2 ^ rows.length → Calls Tryz.prog 117 #[.int .i64 (k : Nat), .int .i64 (y : Nat), .pointer (some ⟨Q, 0, none⟩), .pointer (some ⟨X, 0, none⟩)] W fun e W' => e = .returned (.tuple #[]) ∧ I W' (l ++ [(k, y)]) ∧ (∀ T, SeenV W M T → SeenV W' M T) ∧ KeepA W W' ∧ Below B W W') :
    Calls Tryz.prog 52 #[.agg #[.int .i64 L, .slice A rows.length cc], .int .i64 S, .map (some M), .func (.func 117) #[] #[.pointer (some ⟨Q, 0, none⟩), .pointer (some ⟨X, 0, none⟩)]] w fun e w' => e = .returned (.tuple #[]) ∧ I w' (frK rows S seen L) ∧ SeenV w' M (seen ++ snd (frK rows S seen L)) ∧ Below B w w' := by
  have hB0 : Below w.heap.size w (w.alloc (Obj.cells #[.int .i64 L, .slice A rows.length cc] 24)) := (Below.refl _ w).alloc (Nat.le_refl _) _
  obtain ⟨N, hNN⟩ : ∃ N, w.heap.size = N := ⟨_, rfl⟩
  have hbx : BoxA (w.alloc (Obj.cells #[.int .i64 L, .slice A rows.length cc] 24)) N L A rows.length cc := by rw [← hNN]; exact heap_alloc_new w _
  have k0 := hbx.c0
  have k1 := hbx.c1
  have hI1 := hk1 _ _ _ hI hB0
  have hM1 := hM.belowL hB0 (Nat.le_refl _)
  have hB1 : Below B w (w.alloc (Obj.cells #[.int .i64 L, .slice A rows.length cc] 24)) := hB0.mono hB
  have hl3 := hA.l3
  have HA := hide hA
  have HS := hide hS
  have HRT := hide hRT
  have HK1 := hide hk1
  have HK2 := hide hk2
  have HC := hide hc
  clear hA hS hRT hk1 hk2 hc hM hI hB0
  go_enter Tryz.func52, Tryz.ntmps52
  go_wp2
  generalize w.alloc (Obj.cells #[.int .i64 L, .slice A rows.length cc] 24) = W1 at hB1 hbx k0 k1 hI1 hM1 ⊢
  clear k0 k1
  go_loopw [12] (fun iv wr => ∃ k : Nat, iv = .int .i64 k ∧ k ≤ L ∧ BoxA wr N L A rows.length cc ∧ I wr (frK rows S seen k) ∧ SeenV wr M (seen ++ snd (frK rows S seen k)) ∧ Below B w wr) (fun iv _ => L - (intOf iv).toNat)
  case atStart => exact ⟨0, rfl, Nat.zero_le _, hbx, hI1, by simpa [snd, frK] using hM1, hB1⟩
  case round =>
    obtain ⟨k, rfl, hk, hbx, hIk, hMk, hBk⟩ := hrel
    clear hI1 hM1 hB1
    by_cases hkl : k < L
    · have hgY := hide (frK_yes (rows := rows) (S := S) (seen := seen) (c := k))
      have hgN := hide (frK_no (rows := rows) (S := S) (seen := seen) (c := k))
      have hfl := frK_len (rows := rows) (S := S) (seen := seen) k
      have hy64 := HA.out.img_lt hkl S
      have hy2 : img rows S k < 64 := Nat.lt_of_lt_of_le hy64 HA.out.pow
      have HST : Hid (Calls Tryz.prog 118 #[.agg #[.int .i64 L, .slice A rows.length cc], .int .i64 S, .int .i64 k] wr fun e w' => e = .returned (.int .i64 (img rows S k)) ∧ Below wr.heap.size wr w') :=
        hide (zstep_any rows L S k A cc wr HA.out hkl HS.out (HRT.out wr hBk).1 (HRT.out wr hBk).2)
      obtain ⟨y, hy⟩ : ∃ y, img rows S k = y := ⟨_, rfl⟩
      rw [hy] at hgY hgN hy64 hy2 HST
      generalize frK rows S seen k = G at hIk hMk hgY hgN hfl
      have hlk : (seen ++ snd G).length ≤ 1000000 := by simp [snd]; omega
      have k0 := hbx.c0
      have k1 := hbx.c1
      have hBs := hBk.size
      clear hy
      by_cases hm : y ∈ seen ++ snd G
      · have HG := hide (hgY.out hm)
        replace hm := hide hm
        clear hgN hgY
        go_wp2_with (go_at_call 118; refine (HST.out).mono ?_; rintro e w3 ⟨rfl, hB3⟩; have hM3 := hMk.belowL hB3 (Nat.le_refl _); have hlook := hM3.look y (by omega); rw [decide_eq_true hm.out] at hlook)
        go_roundw
        case rel => exact ⟨k + 1, by go_num, hkl, (hB3.block N hbx.lt).trans hbx, by rw [HG.out]; exact HK1.out _ _ _ hIk hB3, by rw [HG.out]; exact hM3, hBk.trans (hB3.mono (by omega))⟩
        case measure => simp [intOf]; omega
      · have HG := hide (hgN.out hm)
        replace hm := hide hm
        clear hgN hgY
        go_wp2_with (first
          | (go_at_call 118; refine (HST.out).mono ?_; rintro e w3 ⟨rfl, hB3⟩; have hM3 := hMk.belowL hB3 (Nat.le_refl _); have hlook := hM3.look y (by omega); rw [decide_eq_false hm.out] at hlook; obtain ⟨w4, hrun, hM4, hg4⟩ := hM3.store hlk y (by omega); have hI4 := HK2.out _ _ _ _ hM3 (HK1.out _ _ _ hIk hB3) hg4)
          | (go_at_call 117; refine (HC.out _ _ k y hI4 hkl hfl hy64).mono ?_; rintro e w5 ⟨rfl, hI5, hM5, hA5, hB5⟩))
        go_roundw
        case rel =>
          have hbx3 : BoxA w3 N L A rows.length cc := (hB3.block N hbx.lt).trans hbx
          have hbx4 : BoxA w4 N L A rows.length cc := (hg4.block N hbx3.lt (boxA_ne_map hbx3 hM3)).trans hbx3
          have hB4 := (hBk.trans (hB3.mono (by omega))).grown hg4 (by have := hB3.size; omega) (fun j e => by cases e; exact hBM)
          refine ⟨k + 1, by go_num, hkl, hA5 _ _ hbx4, by rw [HG.out]; exact hI5, ?_, hB4.trans hB5⟩
          rw [HG.out, show snd (G ++ [(k, y)]) = snd G ++ [y] by simp [snd], ← List.append_assoc]
          exact hM5 _ hM4
        case measure => simp [intOf]; omega
    · obtain rfl : k = L := by omega
      go_wp2
      go_end0
      exact ⟨rfl, hIk, hMk, hBk⟩
end Go.Proofs.YtpppbkdbpbpinaaGreatDoor
