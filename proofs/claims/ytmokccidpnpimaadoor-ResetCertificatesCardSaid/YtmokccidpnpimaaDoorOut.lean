/- Rows of rows of ints that the call itself makes ([][]int). -/
import Derived.Test.YtmokccidpnpimaaDoorLayF
set_option linter.unusedVariables false
namespace Go.Proofs.YtmokccidpnpimaaDoor
open Go.RowKit Go.Maps
theorem infoInts : (Tryd.prog.info? 27).map (fun i => (i.zero, i.size, i.bytes)) = some (some (.slice none 0 0), 1, 24) := by kernel_rfl
/-- all blocks of cells are as they were -/
def KeepC (w w' : World) : Prop := ∀ (j : Nat) (c : Array Value) (t : TypeId), w.heap[j]? = some (Obj.cells c t (0, 0)) → w'.heap[j]? = some (Obj.cells c t (0, 0))
theorem KeepC.refl (w : World) : KeepC w w := fun _ _ _ h => h
theorem KeepC.trans {a b c : World} (h : KeepC a b) (k : KeepC b c) : KeepC a c := fun j d t e => k j d t (h j d t e)
theorem KeepC.below {w w' : World} (h : Below w.heap.size w w') : KeepC w w' := fun j c t e => (h.block j (Array.getElem?_eq_some_iff.1 e).1).trans e
theorem KeepC.map_ {w w' : World} {M : Nat} {S : List Nat} (hm : SeenV w M S) (hg : w.grownBy w' (some M)) : KeepC w w' := fun j c t e =>
  (hg.block j (Array.getElem?_eq_some_iff.1 e).1 (fun e2 => by
    cases e2
    obtain ⟨es, clock, h0⟩ := hm.obj
    rw [h0] at e
    cases e)).trans e
theorem Ints.keepC {w w' : World} {B : Nat} {v : Value} {zs : List Int} (h : Ints w B v zs) (hk : KeepC w w') : Ints w' B v zs := by
  refine ⟨h.1, ?_⟩
  rcases h.2 with hn | ⟨g, cap, cur, rfl, hbg, hg, rest⟩
  · exact .inl hn
  · exact .inr ⟨g, cap, cur, rfl, hbg, hk _ _ _ hg, rest⟩
theorem Ints.mono {w : World} {B B' : Nat} {v : Value} {zs : List Int} (h : Ints w B v zs) (hb : B' ≤ B) : Ints w B' v zs := by
  refine ⟨h.1, ?_⟩
  rcases h.2 with hn | ⟨g, cap, cur, rfl, hbg, hg, rest⟩
  · exact .inl hn
  · exact .inr ⟨g, cap, cur, rfl, by omega, hg, rest⟩
/-- the slice value v holds the rows ls, all of the call's own -/
def OutV (w : World) (B : Nat) (v : Value) (ls : List (List Int)) : Prop := ∃ vs : List Value, w.ownsRow B 27 1 v ls.length vs ∧ ∀ j (h : j < ls.length), ∃ u, vs[j]? = some u ∧ Ints w B u ls[j]
section
variable {w w' : World} {B : Nat} {v : Value} {ls : List (List Int)}
theorem OutV.nil_ (w : World) (B : Nat) : OutV w B (.slice none 0 0) [] := ⟨[], World.ownsRow_nil _ _ _ _, fun j h => by simp at h⟩
theorem OutV.empty_ {g : Nat} (hg : w.heap.size = g) (hB : B ≤ g) : OutV (w.alloc (.cells #[] 27)) B (.slice (some ⟨g, 0, none⟩) 0 0) [] := by
  subst hg
  exact ⟨[], World.ownsRow_made (base := B) (e := 27) (size := 1) w #[] 0 hB (by decide) rfl, fun j h => by simp at h⟩
theorem OutV.keepC (h : OutV w B v ls) (hk : KeepC w w') : OutV w' B v ls := by
  obtain ⟨vs, ⟨h1, h2⟩, h3⟩ := h
  refine ⟨vs, ⟨h1, ?_⟩, fun j hj => ?_⟩
  · rcases h2 with hn | ⟨g, cap, cur, rfl, hbg, hg, rest⟩
    · exact .inl hn
    · exact .inr ⟨g, cap, cur, rfl, hbg, hk _ _ _ hg, rest⟩
  · obtain ⟨u, hu, hI⟩ := h3 j hj
    exact ⟨u, hu, hI.keepC hk⟩
theorem OutV.shape (h : OutV w B v ls) : ∃ ad cap, v = .slice ad ls.length cap := by
  obtain ⟨vs, ⟨h1, h2⟩, h3⟩ := h
  rcases h2 with ⟨hv, hn⟩ | ⟨g, cap, cur, hv, _⟩
  · exact ⟨none, 0, by rw [hv, hn]⟩
  · exact ⟨_, cap, hv⟩
theorem OutV.drew (h : OutV w B v ls) : OutV w.drew B v ls := h
theorem OutV.alloc (h : OutV w B v ls) (o : Obj) : OutV (w.alloc o) B v ls := h.keepC fun j c t e => (heap_alloc_old w o (Array.getElem?_eq_some_iff.1 e).1).trans e
end
theorem intRow_out {w : World} {B B' : Nat} {v u : Value} {zs : List Int} {n : Nat} {vs : List Value} (h : Ints w B u zs) (h' : w.ownsRow B' 27 1 v n vs) : u.ownBlock = none ∨ u.ownBlock ≠ v.ownBlock := row_ne_row (by decide) h h'
theorem run_app_out (w : World) (ty : TypeId) (B : Nat) (v : Value) (ls : List (List Int)) (hown : OutV w B v ls) (g : Nat) (u : Value) (zs : List Int) (hu : Ints w B u zs)
    (hblk : w.heap[g]? = some (.cells #[u] 27 (0, 0))) (hb : ls.length + 1 ≤ 4294967296) (hbase : B ≤ w.heap.size) :
    ∃ v' w', (Builtin.append_ #[22, 22] ty #[v, .slice (some ⟨g, 0, none⟩) 1 1]).run Tryd.prog w = .ok v' w' ∧ OutV w' B v' (ls ++ [zs]) ∧ w.grownBy w' v.ownBlock := by
  obtain ⟨i0, hi, hz0, hz1, hz2⟩ := info_parts infoInts
  obtain ⟨vs, hrow, hin⟩ := hown
  obtain ⟨v', w', h1, h2, h3, _⟩ := run_append_own (P := Tryd.prog) w B 22 ty 27 i0 _ 1 24 Tryd.underlying22 hi hz0 hz1 hz2 rfl (by decide) v ls.length vs hrow ⟨g, 0, none⟩ 1 1 [u] rfl (by
      intro j x hj
      have : (⟨g, 0, none⟩ : Addr).add j = ⟨g, j, none⟩ := by unfold Addr.add; split <;> simp_all
      rw [this, cell_of_row w g j _ 27 (0, 0) hblk]
      simpa using hj) (by
      intro x hx
      obtain rfl : x = u := by simpa using hx
      obtain ⟨ad, cap, rfl⟩ := hu.shape
      rfl) (by unfold maxLen; omega) (by omega) hbase
  have hvl : vs.length = ls.length := by have := hrow.1; omega
  refine ⟨v', w', h1, ⟨vs ++ [u], by rw [List.length_append]; exact h2, fun j hj => ?_⟩, h3⟩
  rcases Nat.lt_or_ge j ls.length with hl | hl
  · obtain ⟨x, hx, hI⟩ := hin j hl
    exact ⟨x, by rw [List.getElem?_append_left (by omega)]; exact hx, by rw [List.getElem_append_left hl]; exact World.ownsRow.kept hI h3 (intRow_out hI hrow)⟩
  · have : j = ls.length := by simp at hj; omega
    subst this
    exact ⟨u, by rw [List.getElem?_append_right (by omega), hvl]; simp, by simp; exact World.ownsRow.kept hu h3 (intRow_out hu hrow)⟩
theorem wpList_app_out {w : World} {ops : Array Oper} {rest : List Oper} {o : Oper} {a : Act} {Q : Exit → Act → World → Prop} (hgd : o.guard = none) (s x : Operand)
    (ho : o.op = .call { callee := .builtin .append, args := #[s, x], argTypes := #[22, 22] })
    (B : Nat) (v : Value) (ls : List (List Int)) (hs : a.eval s = v) (hown : OutV w B v ls) (u : Value) (zs : List Int) (hu : Ints w B u zs)
    (g : Nat) (hx : a.eval x = .slice (some ⟨g, 0, none⟩) 1 1) (hblk : w.heap[g]? = some (.cells #[u] 27 (0, 0)))
    (hb : ls.length + 1 ≤ 4294967296) (hbase : B ≤ w.heap.size)
    (h : ∀ v' w', OutV w' B v' (ls ++ [zs]) → w.grownBy w' v.ownBlock → wpList Tryd.prog ops Q rest (a.put o.dst v') w') : wpList Tryd.prog ops Q (o :: rest) a w :=
  wpList_plain hgd fun K hK => by
    obtain ⟨v', w', hr, h2, h3⟩ := run_app_out w o.type B v ls hown g u zs hu hblk hb hbase
    unfold Oper.wp execOp
    simp only [ho, resolve, invoke, builtin, Sem.run_bind, Sem.run_pure, Result.andThen_ok, List.map_toArray, List.map_cons, List.map_nil, hs, hx, hr]
    exact hK _ _ (h v' w' h2 h3)
theorem out_ne_obj {w : World} {B E : Nat} {v : Value} {ls : List (List Int)} (h : OutV w B v ls) (hE : ∀ (c : Array Value) (t : TypeId), w.heap[E]? ≠ some (Obj.cells c t (0, 0))) : some E ≠ v.ownBlock := by
  obtain ⟨vs, hrow, _⟩ := h
  intro e
  rcases hrow.2 with ⟨rfl, _⟩ | ⟨g, cap, cur, rfl, hbg, hg, _⟩
  · cases e
  · simp [Value.ownBlock] at e
    subst e
    exact hE _ _ hg
end Go.Proofs.YtmokccidpnpimaaDoor
