import Derived.Test.YtbnpjoiojhnimaaGreatDoorG8
import Derived.Test.YtbnpjoiojhnimaaGreatDoorG4
import Derived.Laws.ResultCell
import Derived.Laws.Rows
set_option linter.unusedSimpArgs false
set_option linter.unusedVariables false
/- Rows of bytes that the call itself makes ([]byte): the append law in short form. -/
namespace Go.Proofs.YtbnpjoiojhnimaaGreatDoor
open Go.RowKit
section
def BStr (w : World) (B : Nat) (v : Value) (xs : List UInt8) : Prop := w.ownsRow B 5 1 v xs.length (xs.map byt)
section
variable {w w' : World} {B : Nat} {v : Value} {xs : List UInt8}
theorem BStr.nil_ (w : World) (B : Nat) : BStr w B (.slice none 0 0) [] := World.ownsRow_nil _ _ _ _
theorem BStr.alloc (h : BStr w B v xs) (o : Obj) : BStr (w.alloc o) B v xs := World.ownsRow.alloc h o
theorem BStr.drew (h : BStr w B v xs) : BStr w.drew B v xs := h
theorem BStr.drewN (h : BStr w B v xs) (n : Nat) : BStr (w.drewN n) B v xs := h
theorem BStr.form (h : BStr w B v xs) (hne : 0 < xs.length) : ∃ g cap, v = .slice (some ⟨g, 0, none⟩) xs.length cap ∧ B ≤ g ∧ g < w.heap.size := by
 rcases h.2 with ⟨_, hn⟩ | ⟨g, cap, cur, hv, hb, hh, _⟩
 ·omega
 ·refine ⟨g, cap, hv, hb, ?_⟩
  rcases Nat.lt_or_ge g w.heap.size with hlt | hge
  ·exact hlt
  ·rw [Array.getElem?_eq_none hge] at hh; cases hh
theorem BStr.shape (h : BStr w B v xs) : ∃ ad cap, v = .slice ad xs.length cap := by
 rcases h.2 with ⟨hv, hn⟩ | ⟨g, cap, cur, hv, _⟩
 ·exact ⟨none, 0, by rw [hv, hn]⟩
 ·exact ⟨_, cap, hv⟩
theorem BStr.cell {g cap n : Nat} (h : BStr w B (.slice (some ⟨g, 0, none⟩) n cap) xs) {k : Nat} (hk : k < xs.length) : w.cell? ⟨g, k, none⟩ = some (byt xs[k]) := by
 have hn : n = xs.length := by
  rcases h.2 with ⟨h', _⟩ | ⟨g', cap', cur, h', _⟩
  ·simp at h'
  ·simp only [Value.slice.injEq] at h'; exact h'.2.1
 subst hn
 have := World.ownsRow.cellAt h k (by omega)
 rw [this]; simp [hk]
end
theorem run_app_bs (w : World) (ty : TypeId) (B : Nat) (v : Value) (xs : List UInt8) (hown : BStr w B v xs) (g m : Nat) (news : List UInt8) (hl : news.length = m)
  (hblk : w.heap[g]? = some (.cells (news.map byt).toArray 5 (0, 0))) (hb : xs.length + m ≤ 4294967296) (hbase : B ≤ w.heap.size) :
  ∃ v' w', (Builtin.append_ #[39, 39] ty #[v, .slice (some ⟨g, 0, none⟩) m m]).run Tryz.prog w = .ok v' w' ∧ BStr w' B v' (xs ++ news) ∧ w.grownBy w' v.ownBlock := by
 obtain ⟨i0, hi, hz0, hz1, hz2⟩ := info_parts infoByte
 obtain ⟨v', w', h1, h2, h3, _⟩ := run_append_own (P := Tryz.prog) w B 39 ty 5 i0 _ 1 1 Tryz.underlying39 hi hz0 hz1 hz2 rfl (by decide) v xs.length (xs.map byt) hown ⟨g, 0, none⟩ m m (news.map byt) (by simp [hl]) (by
   intro j u hj
   have : (⟨g, 0, none⟩ : Addr).add j = ⟨g, j, none⟩ := by unfold Addr.add; split <;> simp_all
   rw [this, cell_of_row w g j _ 5 (0, 0) hblk]
   simpa using hj) (by
   intro u hu
   obtain ⟨b, _, rfl⟩ := List.mem_map.1 hu
   rfl) (by unfold maxLen; omega) (by omega) hbase
 refine ⟨v', w', h1, ?_, h3⟩
 unfold BStr
 rw [List.length_append, hl, List.map_append]
 exact h2
theorem wp_app_bs {w : World} {o : Oper} {a : Act} {K : Act → World → Prop} {Q : Exit → Act → World → Prop} (s x : Operand)
  (ho : o.op = .call { callee := .builtin .append, args := #[s, x], argTypes := #[39, 39] })
  (B : Nat) (v : Value) (xs : List UInt8) (hs : a.eval s = v) (hown : BStr w B v xs)
  (g m : Nat) (news : List UInt8) (hx : a.eval x = .slice (some ⟨g, 0, none⟩) m m) (hl : news.length = m) (hblk : w.heap[g]? = some (.cells (news.map byt).toArray 5 (0, 0)))
  (hb : xs.length + m ≤ 4294967296) (hbase : B ≤ w.heap.size)
  (h : ∀ v' w', BStr w' B v' (xs ++ news) → w.grownBy w' v.ownBlock → K (a.put o.dst v') w') : o.wp Tryz.prog a w K Q := by
 obtain ⟨v', w', hr, h2, h3⟩ := run_app_bs w o.type B v xs hown g m news hl hblk hb hbase
 unfold Oper.wp execOp
 simp only [ho, resolve, invoke, builtin, Sem.run_bind, Sem.run_pure, Result.andThen_ok, List.map_toArray, List.map_cons, List.map_nil, hs, hx, hr]
 exact h v' w' h2 h3
theorem wpList_app_bs {w : World} {ops : Array Oper} {rest : List Oper} {o : Oper} {a : Act} {Q : Exit → Act → World → Prop} (hgd : o.guard = none) (s x : Operand)
  (ho : o.op = .call { callee := .builtin .append, args := #[s, x], argTypes := #[39, 39] })
  (B : Nat) (v : Value) (xs : List UInt8) (hs : a.eval s = v) (hown : BStr w B v xs)
  (g m : Nat) (news : List UInt8) (hx : a.eval x = .slice (some ⟨g, 0, none⟩) m m) (hl : news.length = m) (hblk : w.heap[g]? = some (.cells (news.map byt).toArray 5 (0, 0)))
  (hb : xs.length + m ≤ 4294967296) (hbase : B ≤ w.heap.size)
  (h : ∀ v' w', BStr w' B v' (xs ++ news) → w.grownBy w' v.ownBlock → wpList Tryz.prog ops Q rest (a.put o.dst v') w') : wpList Tryz.prog ops Q (o :: rest) a w :=
 wpList_plain hgd fun _ hK => wp_app_bs s x ho B v xs hs hown g m news hx hl hblk hb hbase fun v' w' h2 h3 => hK _ _ (h v' w' h2 h3)
theorem step_app_bs {w : World} {ops : Array Oper} {o : Oper} {a : Act} {K : Act → World → Prop} {Q : Exit → Act → World → Prop} {E : Prop} (hgd : o.guard = none) (s x : Operand)
  (ho : o.op = .call { callee := .builtin .append, args := #[s, x], argTypes := #[39, 39] })
  (B : Nat) (v : Value) (xs : List UInt8) (hs : a.eval s = v) (hown : BStr w B v xs)
  (g m : Nat) (news : List UInt8) (hx : a.eval x = .slice (some ⟨g, 0, none⟩) m m) (hl : news.length = m) (hblk : w.heap[g]? = some (.cells (news.map byt).toArray 5 (0, 0)))
  (hb : xs.length + m ≤ 4294967296) (hbase : B ≤ w.heap.size)
  (h : ∀ v' w', BStr w' B v' (xs ++ news) → w.grownBy w' v.ownBlock → K (a.put o.dst v') w') :
  if Region.wanted o (yielded ops a.tmps) = true then Oper.wp Tryz.prog o a w K Q else E := by
 have hw : Region.wanted o (yielded ops a.tmps) = true := by simp [Region.wanted, hgd]
 rw [if_pos hw]
 exact wp_app_bs s x ho B v xs hs hown g m news hx hl hblk hb hbase h
theorem BStr.back {w : World} {B : Nat} {v : Value} {l : List UInt8} (h : BStr w B v l) (hl : 0 < l.length) :
  (convert 39 9 v).run Tryz.prog w = .ok (.string ⟨l.toArray⟩) w := by
 obtain ⟨g, cap, rfl, _, _⟩ := h.form hl
 refine run_convert_bytes_back w 39 9 5 ⟨g, 0, none⟩ cap l Tryz.underlying39 Tryz.underlying5 Tryz.underlying9 fun j hj => ?_
 have : (⟨g, 0, none⟩ : Addr).add j = ⟨g, j, none⟩ := by unfold Addr.add; split <;> simp_all
 rw [this]; exact h.cell hj
theorem run_make_cap (k : Nat) (hk : k ≤ 280000) (w : World) : ∃ w', (Instr.makeSlice 39 (.int .i64 0) (.int .i64 (k : Int))).run Tryz.prog w = .ok (.slice (some ⟨w.heap.size, 0, none⟩) 0 k) w' ∧
  BStr w' w.heap.size (.slice (some ⟨w.heap.size, 0, none⟩) 0 k) [] ∧ Below w.heap.size w w' := by
 obtain ⟨i0, hi, hz0, hz1, hz2⟩ := info_parts infoByte
 obtain ⟨w', h1, h2, h3⟩ := run_make_own (P := Tryz.prog) w w.heap.size 39 5 i0 _ 1 Tryz.underlying39 hi hz0 hz1 .i64 .i64 k (by rw [hz2]; omega) (by unfold maxLen; omega) (Nat.le_refl _)
 exact ⟨w', h1, h2, (Below.refl _ w).grown h3 (Nat.le_refl _) (fun _ h => by cases h)⟩
theorem apiIntSize : (Tryz.prog.info? 55).map (·.size) = some 2 := by kernel_rfl
theorem results_cell_one {fn : Func} {p : Tmp} {ty : TypeId} (h : fn.results = #[.cell p ty]) (tmps : Array Value) (P : Program) (w : World) :
  (results fn tmps).run P w = ((asAddr (tmps.getD p undef)).run P w).andThen fun a w₁ => (loadVar ty a).run P w₁ := by
 simp only [results, h]
 simp [Sem.run_bind, Result.andThen]
theorem ret_apiInt {fn : Func} {p : Tmp} (h : fn.results = #[.cell p 55]) (tmps : Array Value) (w : World) (g : Nat) (cs : Array Value) (hp : tmps.getD p undef = .pointer (some ⟨g, 0, none⟩)) (hg : w.heap[g]? = some (.cells cs 55 (0, 0))) (hcs : cs.size = 2) :
  (results fn tmps).run Tryz.prog w = .ok (.agg cs) w := by
 rw [results_cell_one h, hp]
 simp [asAddr, Result.andThen, run_loadVar_row w g 55 55 cs (0, 0) _ hg Tryz.underlying55 rfl (by rw [hcs]; exact apiIntSize)]
def ResI (w : World) (B : Nat) (b : Bool) (s : ByteArray) : Prop := w.heap[B]? = some (.cells #[.bool b, .string s] 55 (0, 0))
section
variable {w w' : World} {B : Nat} {b : Bool} {s : ByteArray}
theorem ResI.c0 (h : ResI w B b s) : w.cell? ⟨B, 0, none⟩ = some (.bool b) := by rw [cell_of_row w B 0 _ _ _ h]; rfl
theorem ResI.c1 (h : ResI w B b s) : w.cell? ⟨B, 1, none⟩ = some (.string s) := by rw [cell_of_row w B 1 _ _ _ h]; rfl
theorem ResI.z0 (h : ResI w B b s) : w.frozen? ⟨B, 0, none⟩ = false := by unfold ResI at h; simp [World.frozen?, h]
theorem ResI.z1 (h : ResI w B b s) : w.frozen? ⟨B, 1, none⟩ = false := by unfold ResI at h; simp [World.frozen?, h]
theorem ResI.set_ (h : ResI w B b s) (b' : Bool) (s' : ByteArray) : ResI ((w.setCell ⟨B, 0, none⟩ (.bool b')).setCell ⟨B, 1, none⟩ (.string s')) B b' s' := by
 unfold ResI at h ⊢
 simp [World.setCell, Array.getElem?_modify, h]
theorem ResI.below {B' : Nat} (h : ResI w B b s) (hb : Below B' w w') (hg : B < B') : ResI w' B b s := (hb.block B hg).trans h
theorem ResI.new_ (w : World) (b : Bool) (s : ByteArray) : ResI (w.alloc (.cells #[.bool b, .string s] 55)) w.heap.size b s := heap_alloc_new w _
theorem Below.pair {B' : Nat} {a w : World} (h : Below B' a w) (hp : B' ≤ B) (u v : Value) : Below B' a ((w.setCell ⟨B, 0, none⟩ u).setCell ⟨B, 1, none⟩ v) :=
 (h.setCell (p := ⟨B, 0, none⟩) hp u).setCell (p := ⟨B, 1, none⟩) hp v
end
theorem below_appb {W w w' : World} {v : Value} {xs : List UInt8} (hB : Below W.heap.size W w) (hs : BStr w W.heap.size v xs) (hg : w.grownBy w' v.ownBlock) : Below W.heap.size W w' :=
 hB.grown hg hB.size (fun _ hk => (World.ownsRow.lt hs _ hk).1)
end
end Go.Proofs.YtbnpjoiojhnimaaGreatDoor
