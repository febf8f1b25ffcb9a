import Derived.Test.YtbnpjoiojhnimaaGreatDoorG0
import Derived.StillTailTactics
import Derived.IntWalk
import Derived.OwnWalk
set_option linter.unusedSimpArgs false
set_option linter.unusedVariables false
/- Rows of strings that the call itself makes ([]string): the append law in short form. -/
namespace Go.Proofs.YtbnpjoiojhnimaaGreatDoor
open Go.RowKit
section
theorem infoStr : (Tryz.prog.info? 9).map (fun i => (i.zero, i.size, i.bytes)) = some (some (.string ⟨#[]⟩), 1, 16) := by kernel_rfl
def Strs (w : World) (B : Nat) (v : Value) (xs : List ByteArray) : Prop := w.ownsRow B 9 1 v xs.length (xs.map Value.string)
section
variable {w w' : World} {B : Nat} {v : Value} {xs : List ByteArray}
theorem Strs.nil_ (w : World) (B : Nat) : Strs w B (.slice none 0 0) [] := World.ownsRow_nil _ _ _ _
theorem Strs.alloc (h : Strs w B v xs) (o : Obj) : Strs (w.alloc o) B v xs := World.ownsRow.alloc h o
theorem Strs.drew (h : Strs w B v xs) : Strs w.drew B v xs := h
theorem Strs.drewN (h : Strs w B v xs) (n : Nat) : Strs (w.drewN n) B v xs := h
theorem Strs.lit (w : World) (xs : List ByteArray) (hB : B ≤ w.heap.size) (hm : xs.length ≤ 4294967296) (cs : Array Value) (hc : cs = (xs.map Value.string).toArray) :
  Strs (w.alloc (.cells cs 9)) B (.slice (some ⟨w.heap.size, 0, none⟩) xs.length xs.length) xs := by
 subst hc
 have := World.ownsRow_lit (base := B) (e := 9) (size := 1) w (xs.map Value.string).toArray xs.length hB (by unfold maxLen; omega) (by simp)
 simpa [Strs] using this
theorem Strs.empty_ {w : World} {B g : Nat} (hg : w.heap.size = g) (hB : B ≤ g) : Strs (w.alloc (.cells #[] 9)) B (.slice (some ⟨g, 0, none⟩) 0 0) [] := by
 subst hg
 exact World.ownsRow_made (base := B) (e := 9) (size := 1) w #[] 0 hB (by decide) rfl
theorem Strs.one_ {w : World} {B g : Nat} (hg : w.heap.size = g) (hB : B ≤ g) (s : ByteArray) : Strs (w.alloc (.cells #[.string s] 9)) B (.slice (some ⟨g, 0, none⟩) 1 1) [s] := by
 subst hg
 exact Strs.lit w [s] hB (by simp) _ rfl
theorem Strs.form (h : Strs w B v xs) (hne : 0 < xs.length) : ∃ g cap, v = .slice (some ⟨g, 0, none⟩) xs.length cap ∧ B ≤ g ∧ g < w.heap.size := by
 rcases h.2 with ⟨_, hn⟩ | ⟨g, cap, cur, hv, hb, hh, _⟩
 ·omega
 ·refine ⟨g, cap, hv, hb, ?_⟩
  rcases Nat.lt_or_ge g w.heap.size with hlt | hge
  ·exact hlt
  ·rw [Array.getElem?_eq_none hge] at hh; cases hh
theorem Strs.shape (h : Strs w B v xs) : ∃ ad cap, v = .slice ad xs.length cap := by
 rcases h.2 with ⟨hv, hn⟩ | ⟨g, cap, cur, hv, _⟩
 ·exact ⟨none, 0, by rw [hv, hn]⟩
 ·exact ⟨_, cap, hv⟩
theorem Strs.cell {g cap n : Nat} (h : Strs w B (.slice (some ⟨g, 0, none⟩) n cap) xs) {k : Nat} (hk : k < xs.length) : w.cell? ⟨g, k, none⟩ = some (.string xs[k]) := by
 have hn : n = xs.length := by
  rcases h.2 with ⟨h', _⟩ | ⟨g', cap', cur, h', _⟩
  ·simp at h'
  ·simp only [Value.slice.injEq] at h'; exact h'.2.1
 subst hn
 have := World.ownsRow.cellAt h k (by omega)
 rw [this]; simp [hk]
end
theorem run_app_strs (w : World) (ty : TypeId) (B : Nat) (v : Value) (xs : List ByteArray) (hown : Strs w B v xs) (g m : Nat) (news : List ByteArray) (hl : news.length = m)
  (hblk : w.heap[g]? = some (.cells (news.map Value.string).toArray 9 (0, 0))) (hb : xs.length + m ≤ 4294967296) (hbase : B ≤ w.heap.size) :
  ∃ v' w', (Builtin.append_ #[25, 25] ty #[v, .slice (some ⟨g, 0, none⟩) m m]).run Tryz.prog w = .ok v' w' ∧ Strs w' B v' (xs ++ news) ∧ w.grownBy w' v.ownBlock := by
 obtain ⟨i0, hi, hz0, hz1, hz2⟩ := info_parts infoStr
 obtain ⟨v', w', h1, h2, h3, _⟩ := run_append_own (P := Tryz.prog) w B 25 ty 9 i0 _ 1 16 Tryz.underlying25 hi hz0 hz1 hz2 rfl (by decide) v xs.length (xs.map Value.string) hown ⟨g, 0, none⟩ m m (news.map Value.string) (by simp [hl]) (by
   intro j u hj
   have : (⟨g, 0, none⟩ : Addr).add j = ⟨g, j, none⟩ := by unfold Addr.add; split <;> simp_all
   rw [this, cell_of_row w g j _ 9 (0, 0) hblk]
   simpa using hj) (by
   intro u hu
   obtain ⟨b, _, rfl⟩ := List.mem_map.1 hu
   rfl) (by unfold maxLen; omega) (by omega) hbase
 refine ⟨v', w', h1, ?_, h3⟩
 unfold Strs
 rw [List.length_append, hl, List.map_append]
 exact h2
theorem wp_app_strs {w : World} {o : Oper} {a : Act} {K : Act → World → Prop} {Q : Exit → Act → World → Prop} (s x : Operand)
  (ho : o.op = .call { callee := .builtin .append, args := #[s, x], argTypes := #[25, 25] })
  (B : Nat) (v : Value) (xs : List ByteArray) (hs : a.eval s = v) (hown : Strs w B v xs)
  (g m : Nat) (news : List ByteArray) (hx : a.eval x = .slice (some ⟨g, 0, none⟩) m m) (hl : news.length = m) (hblk : w.heap[g]? = some (.cells (news.map Value.string).toArray 9 (0, 0)))
  (hb : xs.length + m ≤ 4294967296) (hbase : B ≤ w.heap.size)
  (h : ∀ v' w', Strs w' B v' (xs ++ news) → w.grownBy w' v.ownBlock → K (a.put o.dst v') w') : o.wp Tryz.prog a w K Q := by
 obtain ⟨v', w', hr, h2, h3⟩ := run_app_strs w o.type B v xs hown g m news hl hblk hb hbase
 unfold Oper.wp execOp
 simp only [ho, resolve, invoke, builtin, Sem.run_bind, Sem.run_pure, Result.andThen_ok, List.map_toArray, List.map_cons, List.map_nil, hs, hx, hr]
 exact h v' w' h2 h3
theorem wpList_app_strs {w : World} {ops : Array Oper} {rest : List Oper} {o : Oper} {a : Act} {Q : Exit → Act → World → Prop} (hgd : o.guard = none) (s x : Operand)
  (ho : o.op = .call { callee := .builtin .append, args := #[s, x], argTypes := #[25, 25] })
  (B : Nat) (v : Value) (xs : List ByteArray) (hs : a.eval s = v) (hown : Strs w B v xs)
  (g m : Nat) (news : List ByteArray) (hx : a.eval x = .slice (some ⟨g, 0, none⟩) m m) (hl : news.length = m) (hblk : w.heap[g]? = some (.cells (news.map Value.string).toArray 9 (0, 0)))
  (hb : xs.length + m ≤ 4294967296) (hbase : B ≤ w.heap.size)
  (h : ∀ v' w', Strs w' B v' (xs ++ news) → w.grownBy w' v.ownBlock → wpList Tryz.prog ops Q rest (a.put o.dst v') w') : wpList Tryz.prog ops Q (o :: rest) a w :=
 wpList_plain hgd fun _ hK => wp_app_strs s x ho B v xs hs hown g m news hx hl hblk hb hbase fun v' w' h2 h3 => hK _ _ (h v' w' h2 h3)
theorem step_app_strs {w : World} {ops : Array Oper} {o : Oper} {a : Act} {K : Act → World → Prop} {Q : Exit → Act → World → Prop} {E : Prop} (hgd : o.guard = none) (s x : Operand)
  (ho : o.op = .call { callee := .builtin .append, args := #[s, x], argTypes := #[25, 25] })
  (B : Nat) (v : Value) (xs : List ByteArray) (hs : a.eval s = v) (hown : Strs w B v xs)
  (g m : Nat) (news : List ByteArray) (hx : a.eval x = .slice (some ⟨g, 0, none⟩) m m) (hl : news.length = m) (hblk : w.heap[g]? = some (.cells (news.map Value.string).toArray 9 (0, 0)))
  (hb : xs.length + m ≤ 4294967296) (hbase : B ≤ w.heap.size)
  (h : ∀ v' w', Strs w' B v' (xs ++ news) → w.grownBy w' v.ownBlock → K (a.put o.dst v') w') :
  if Region.wanted o (yielded ops a.tmps) = true then Oper.wp Tryz.prog o a w K Q else E := by
 have hw : Region.wanted o (yielded ops a.tmps) = true := by simp [Region.wanted, hgd]
 rw [if_pos hw]
 exact wp_app_strs s x ho B v xs hs hown g m news hx hl hblk hb hbase h
theorem below_app {W w w' : World} {v : Value} {xs : List ByteArray} (hB : Below W.heap.size W w) (hs : Strs w W.heap.size v xs) (hg : w.grownBy w' v.ownBlock) : Below W.heap.size W w' :=
 hB.grown hg hB.size (fun _ hk => (World.ownsRow.lt hs _ hk).1)
end
end Go.Proofs.YtbnpjoiojhnimaaGreatDoor
