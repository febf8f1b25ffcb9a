import Derived.Test.YtbnpjoiojhnimaaGreatDoorG39
import Derived.Deep.RegionHeld3
import Derived.Deep.RegionLaw
import Derived.Deep.DeepCutAuto
import Derived.Test.YtbnpjoiojhnimaaGreatDoorG32
import Derived.Test.YtbnpjoiojhnimaaGreatDoorG21
set_option linter.unusedSimpArgs false
set_option linter.unusedVariables false
/- splitting.Apply: that it ends, with a graph and weights that lie. -/
namespace Go.Proofs.YtbnpjoiojhnimaaGreatDoor
open Go.RowKit
theorem results_cell_tmp3 {fn : Func} {p u v x : Tmp} {ty : TypeId} (h : fn.results = #[.cell p ty, .tmp u, .tmp v, .tmp x]) (tmps : Array Value) (P : Program) (w : World) :
  (results fn tmps).run P w = ((asAddr (tmps.getD p undef)).run P w).andThen fun a w₁ => ((loadVar ty a).run P w₁).andThen fun y w₂ => .ok (.tuple #[y, tmps.getD u undef, tmps.getD v undef, tmps.getD x undef]) w₂ := by
 simp only [results, h]
 simp [Sem.run_bind, Result.andThen]
theorem ret_graph4 {fn : Func} {p u v x : Tmp} (h : fn.results = #[.cell p 24, .tmp u, .tmp v, .tmp x]) (tmps : Array Value) (w : World) (g : Nat) (cs : Array Value) (hp : tmps.getD p undef = .pointer (some ⟨g, 0, none⟩)) (hg : w.heap[g]? = some (.cells cs 24 (0, 0))) (hcs : cs.size = 3) :
  (results fn tmps).run Tryz.prog w = .ok (.tuple #[.agg cs, tmps.getD u undef, tmps.getD v undef, tmps.getD x undef]) w := by
 rw [results_cell_tmp3 h, hp]
 simp [asAddr, Result.andThen, run_loadVar_row w g 24 24 cs (0, 0) _ hg Tryz.underlying24 rfl (by rw [hcs]; exact graphSize)]
theorem infoIntsA : (Tryz.prog.info? 31).map (fun i => (i.zero, i.size, i.bytes)) = some (some (.slice none 0 0), 1, 24) := by kernel_rfl
theorem made_oneA (z : Value) (hz : z.cells = #[z]) (n : Nat) : madeCells z.cells n = (List.replicate n z).toArray := by
 unfold madeCells
 rw [hz]
 apply Array.ext
 ·simp
 ·intro i h1 h2
  simp [Nat.mod_one]
theorem mk_intsA (n : Nat) (hn : n ≤ 70000) (w : World) :
  (Instr.makeSlice 31 (.int .i64 (n : Int)) (.int .i64 (n : Int))).run Tryz.prog w = .ok (.slice (some ⟨w.heap.size, 0, none⟩) n n) (w.alloc (.cells (Array.replicate n (.int .i64 0)) 3)) := by
 obtain ⟨i0, hi, hz0, hz1, hz2⟩ := info_parts infoIntA
 have h := run_make (P := Tryz.prog) w 31 3 i0 _ Tryz.underlying31 hi hz0 .i64 .i64 n n (by omega) (by omega) (by rw [hz2]; omega) (by omega)
 simp only [Int.toNat_natCast, hz1, Nat.mul_one] at h
 rw [h, made_oneA _ rfl]
 simp
theorem mk_intssA (n : Nat) (hn : n ≤ 70000) (w : World) :
  (Instr.makeSlice 28 (.int .i64 (n : Int)) (.int .i64 (n : Int))).run Tryz.prog w = .ok (.slice (some ⟨w.heap.size, 0, none⟩) n n) (w.alloc (.cells (Array.replicate n (.slice none 0 0)) 31)) := by
 obtain ⟨i0, hi, hz0, hz1, hz2⟩ := info_parts infoIntsA
 have h := run_make (P := Tryz.prog) w 28 31 i0 _ Tryz.underlying28 hi hz0 .i64 .i64 n n (by omega) (by omega) (by rw [hz2]; omega) (by omega)
 simp only [Int.toNat_natCast, hz1, Nat.mul_one] at h
 rw [h, made_oneA _ rfl]
 simp
def ApP (n : Nat) (w : World) (e : Ending) : Prop := ∃ (L S : Int) (A : Option Addr) (c : Nat) (ys : List Edg) (D : Option Addr) (d : Nat) (zs : List Int) (pv : Value) (r : Int),
 e = .returned (.tuple #[.agg #[.int .i64 L, .int .i64 S, .slice A ys.length c], .slice D zs.length d, pv, .int .i64 r]) ∧ RowE w A ys ∧ RowI w D zs ∧ zs.length ≤ 64 ∧ ∀ a, D = some a → n ≤ a.block
theorem ApP.no (n : Nat) (w : World) (r : Int) : ApP n w (.returned (.tuple #[.agg #[.int .i64 0, .int .i64 0, .slice none 0 0], .slice none 0 0, .slice none 0 0, .int .i64 r])) :=
 ⟨0, 0, none, 0, [], none, 0, [], _, r, rfl, fun h => absurd h (by simp), fun h => absurd h (by simp), Nat.zero_le _, fun _ h => by cases h⟩
theorem ApS.start (w : World) (n E : Nat) : ApS ((w.alloc (.cells (Array.replicate n (.slice none 0 0)) 31)).alloc (.cells (Array.replicate E (.int .i64 0)) 3)) w.heap.size n E (fun _ => .slice none 0 0) (fun _ => []) := by
 refine ⟨⟨fun i hi => Ints.nil_ _ _, fun i j _ _ _ => .inl rfl⟩, ?_, List.replicate E 0, by simp, ?_⟩
 ·rw [heap_alloc_old _ _ (by simp), heap_alloc_new]
  congr 2
  apply Array.ext <;> simp
 ·have := IB.new_ (w.alloc (.cells (Array.replicate n (.slice none 0 0)) 31)) (List.replicate E 0)
  rw [World.size_alloc] at this
  simpa using this
theorem twoA {w1 w2 : World} {Z n E N : Nat} {s vc : Int} {vo : Value} {F : Nat → Value} {X : Nat → List Int} (hA : ApS w2 Z n E F X) (hB : Below Z w1 w2) (hN : w2.heap[N]? = some (.cells #[.int .i64 s] 3 (0, 0))) (hz : Z + 2 ≤ N) (hf : ∀ i, i < n + 4 → (F i).ownBlock ≠ some N) :
  ApB w1 ((w2.alloc (.cells #[vo] 31)).alloc (.cells #[.int .i64 vc] 3)).drew Z n E N w2.heap.size s vo (upd F 2 (.slice (some ⟨w2.heap.size + 1, 0, none⟩) 1 1)) (upd X 2 [vc]) := by
 have hl := hA.lt
 have hNl : N < w2.heap.size := (Array.getElem?_eq_some_iff.1 hN).1
 refine ⟨?_, fun i hi => ?_, ?_, ?_, hz, hl, ((hB.alloc (by omega) _).alloc (by simp; omega) _).drew⟩
 ·have h := (hA.alloc (.cells #[vo] 31)).put (i := 2) (by decide) (((Below.refl _ _).alloc (Nat.le_refl _) _).drew) (Ints.one_ (B := (w2.alloc (.cells #[vo] 31)).heap.size) rfl (Nat.le_refl _) vc).drew
  rw [World.size_alloc] at h
  exact h
 ·by_cases e : i = 2
  ·subst e; rw [upd_at]; simp [Value.ownBlock]; omega
  ·rw [upd_no _ _ e]
   exact ⟨hf i hi, fun e2 => by have := ((hA.fam.row i hi).own_in e2.symm).2; omega⟩
 ·show ((w2.alloc (.cells #[vo] 31)).alloc (.cells #[.int .i64 vc] 3)).heap[N]? = _
  rw [heap_alloc_old _ _ (by simp; omega), heap_alloc_old _ _ hNl]; exact hN
 ·show ((w2.alloc (.cells #[vo] 31)).alloc (.cells #[.int .i64 vc] 3)).heap[w2.heap.size]? = _
  rw [heap_alloc_old _ _ (by simp)]; exact heap_alloc_new w2 _
theorem twoB {w1 w2 : World} {Z n E N : Nat} {s vc : Int} {vo : Value} {F : Nat → Value} {X : Nat → List Int} (hA : ApS w2 Z n E F X) (hB : Below Z w1 w2) (hN : w2.heap[N]? = some (.cells #[.int .i64 s] 3 (0, 0))) (hz : Z + 2 ≤ N) (hf : ∀ i, i < n + 4 → (F i).ownBlock ≠ some N) :
  ApB w1 ((w2.alloc (.cells #[.int .i64 vc] 3)).alloc (.cells #[vo] 31)).drew Z n E N (w2.heap.size + 1) s vo (upd F 2 (.slice (some ⟨w2.heap.size, 0, none⟩) 1 1)) (upd X 2 [vc]) := by
 have hl := hA.lt
 have hNl : N < w2.heap.size := (Array.getElem?_eq_some_iff.1 hN).1
 refine ⟨?_, fun i hi => ?_, ?_, ?_, hz, by omega, ((hB.alloc (by omega) _).alloc (by simp; omega) _).drew⟩
 ·exact hA.put (i := 2) (by decide) (((Below.refl _ _).alloc (Nat.le_refl _) _).alloc (by simp) _).drew ((Ints.one_ (B := w2.heap.size) rfl (Nat.le_refl _) vc).alloc (.cells #[vo] 31)).drew
 ·by_cases e : i = 2
  ·subst e; rw [upd_at]; simp [Value.ownBlock]; omega
  ·rw [upd_no _ _ e]
   exact ⟨hf i hi, fun e2 => by have := ((hA.fam.row i hi).own_in e2.symm).2; omega⟩
 ·show ((w2.alloc (.cells #[.int .i64 vc] 3)).alloc (.cells #[vo] 31)).heap[N]? = _
  rw [heap_alloc_old _ _ (by simp; omega), heap_alloc_old _ _ hNl]; exact hN
 ·have h := heap_alloc_new (w2.alloc (.cells #[.int .i64 vc] 3)) (.cells #[vo] 31)
  rw [World.size_alloc] at h
  exact h
theorem len_flat {ps : List (List Int)} (h : ∀ p ∈ ps, 0 < p.length) : ps.length ≤ ps.flatten.length := by
 induction ps with
 | nil => simp
 | cons p ps ih =>
  have h1 := h p (by simp)
  have h2 := ih fun q hq => h q (by simp [hq])
  simp only [List.length_cons, List.flatten_cons, List.length_append]
  omega
theorem RowD.fix {w : World} {P : Option Addr} {ps : List (List Int)} (h : RowD w P ps) (h0 : 0 < ps.length) : ∃ (bp op : Nat) (f : Nat → Option Addr × Nat), P = some ⟨bp, op, none⟩ ∧ ∀ W, Below w.heap.size w W → ∀ i (hi : i < ps.length), W.cell? ⟨bp, op + i, none⟩ = some (.slice (f i).1 ps[i].length (f i).2) ∧ RowI W (f i).1 ps[i] := by
 obtain ⟨bp, op, hP, hb, hc⟩ := h h0
 have hx : ∀ k : Nat, ∃ Dc : Option Addr × Nat, ∀ hk : k < ps.length, w.cell? ⟨bp, op + k, none⟩ = some (.slice Dc.1 ps[k].length Dc.2) ∧ RowI w Dc.1 ps[k] := fun k => by
  by_cases hk : k < ps.length
  ·obtain ⟨D, c, h1, h2⟩ := hc k hk
   exact ⟨(D, c), fun _ => ⟨h1, h2⟩⟩
  ·exact ⟨(none, 0), fun h => absurd h hk⟩
 obtain ⟨f, hf⟩ := Classical.axiomOfChoice hx
 exact ⟨bp, op, f, hP, fun W hW i hi => ⟨(hW.cell (p := ⟨bp, op + i, none⟩) hb).trans (hf i hi).1, (hf i hi).2.below hW⟩⟩
def PartsP (w1 : World) (Z n E N PB : Nat) (s : Int) (vo : Value) (lv : List Int) (PA : Option Addr) (ps : List (List Int)) : Prop :=
 ∃ (bp op : Nat) (f : Nat → Option Addr × Nat), PA = some ⟨bp, op, none⟩ ∧ ∀ W F' X', ApB w1 W Z n E N PB s vo F' X' → F' 3 = vo → X' 3 = lv → ∀ i (hi : i < ps.length), W.cell? ⟨bp, op + i, none⟩ = some (.slice (f i).1 ps[i].length (f i).2) ∧ RowI W (f i).1 ps[i]
theorem step_app1 {w : World} {ops : Array Oper} {o : Oper} {a : Act} {K : Act → World → Prop} {Q : Exit → Act → World → Prop} {E : Prop} (hgd : o.guard = none) (s x : Operand)
  (ho : o.op = .call { callee := .builtin .append, args := #[s, x], argTypes := #[31, 31] })
  (B : Nat) (v : Value) (xs : List Int) (hs : a.eval s = v) (hown : Ints w B v xs)
  (g : Nat) (y : Int) (hx : a.eval x = .slice (some ⟨g, 0, none⟩) 1 1) (hblk : w.heap[g]? = some (.cells #[.int .i64 y] 3 (0, 0)))
  (hb : xs.length + 1 ≤ 4294967296) (hbase : B ≤ w.heap.size)
  (h : ∀ v' w', Ints w' B v' (xs ++ [y]) → w.grownBy w' v.ownBlock → (v'.ownBlock = v.ownBlock ∨ v'.ownBlock = some w.heap.size) → K (a.put o.dst v') w') :
  if Region.wanted o (yielded ops a.tmps) = true then Oper.wp Tryz.prog o a w K Q else E := by
 have hw : Region.wanted o (yielded ops a.tmps) = true := by simp [Region.wanted, hgd]
 rw [if_pos hw]
 obtain ⟨i0, hi, hz0, hz1, hz2⟩ := info_parts infoIntA
 obtain ⟨v', w', hr, h2, h3, _, h5⟩ := run_append_own_at (P := Tryz.prog) w B 31 o.type 3 i0 _ 1 8 Tryz.underlying31 hi hz0 hz1 hz2 rfl (by decide) v xs.length (xs.map (Value.int .i64)) hown ⟨g, 0, none⟩ 1 1 [.int .i64 y] rfl (by
  intro j u hj
  have : (⟨g, 0, none⟩ : Addr).add j = ⟨g, j, none⟩ := by unfold Addr.add; split <;> simp_all
  rw [this, cell_of_row w g j _ 3 (0, 0) hblk]
  simpa using hj) (by intro u hu; simp at hu; subst hu; rfl) (by unfold maxLen; omega) (by omega) hbase
 unfold Oper.wp execOp
 simp only [ho, resolve, invoke, builtin, Sem.run_bind, Sem.run_pure, Result.andThen_ok, List.map_toArray, List.map_cons, List.map_nil, hs, hx, hr]
 refine h v' w' ?_ h3 h5
 unfold Ints
 simpa using h2
theorem step_apB {W : World} {ops : Array Oper} {o : Oper} {a : Act} {K : Act → World → Prop} {Q : Exit → Act → World → Prop} {E' : Prop} {w1 : World} {Z S E N PB : Nat} {s : Int} {vo : Value} {F : Nat → Value} {X : Nat → List Int} (hgd : o.guard = none) (s' x : Operand)
  (ho : o.op = .call { callee := .builtin .append, args := #[s', x], argTypes := #[31, 31] }) (h : ApB w1 W Z S E N PB s vo F X) (i : Nat) (hi : i < 4) (hs : a.eval s' = F i) (g : Nat) (y : Int) (hx : a.eval x = .slice (some ⟨g, 0, none⟩) 1 1)
  (hblk : W.heap[g]? = some (.cells #[.int .i64 y] 3 (0, 0))) (n : Nat) (hn : (X i).length = n) (hb : n + 1 ≤ 4294967296)
  (hk : ∀ o' c' w', ApB w1 w' Z S E N PB s vo (upd F i (.slice o' (n + 1) c')) (upd X i (X i ++ [y])) → W.grownBy w' (F i).ownBlock → K (a.put o.dst (.slice o' (n + 1) c')) w') :
  if Region.wanted o (yielded ops a.tmps) = true then Oper.wp Tryz.prog o a W K Q else E' := by
 subst hn
 refine step_app1 hgd s' x ho (Z + 2) (F i) (X i) hs (h.st.fam.row i (by omega)) g y hx hblk hb h.st.lt ?_
 intro v' w' hI hg hat
 obtain ⟨o', c', rfl⟩ := hI.shape
 have e : (X i ++ [y]).length = (X i).length + 1 := by simp
 rw [e] at hI hat ⊢
 exact hk o' c' w' (h.app hi hg hI hat) hg
theorem ApB.two {w1 W : World} {Z S E N PB : Nat} {s : Int} {vo : Value} {F : Nat → Value} {X : Nat → List Int} (h : ApB w1 W Z S E N PB s vo F X) {gp n cp i : Nat} {y : Int} (h2 : F 2 = .slice (some ⟨gp, 0, none⟩) n cp) (hi : i < (X 2).length) (hy : (X 2)[i] = y) :
  W.cell? ⟨N, 0, none⟩ = some (.int .i64 s) ∧ W.cell? ⟨gp, i, none⟩ = some (.int .i64 y) := by
 have hr := h.st.fam.row 2 (by omega)
 obtain ⟨g, cap, e, h1, h3⟩ := hr.form (by omega)
 rw [h2] at e
 cases e
 have hc := (cell_of_row _ _ 0 _ _ _ h.hn).trans rfl
 simp only [List.getElem?_toArray, List.getElem?_cons_zero] at hc
 rw [h2] at hr
 exact ⟨hc, by rw [← hy]; exact hr.cell hi⟩
theorem ApB.own_lt {w1 W : World} {Z S E N PB : Nat} {s : Int} {vo : Value} {F : Nat → Value} {X : Nat → List Int} (h : ApB w1 W Z S E N PB s vo F X) {i g : Nat} (hi : i < 4) (hg : W.heap.size ≤ g) : some g ≠ (F i).ownBlock := fun e => by
 have := ((h.st.fam.row i (by omega)).own_in e).2
 omega
theorem RowE.put3 {w : World} {A : Option Addr} {ys : List Edg} (h : RowE w A ys) {b : Nat} {t : TypeId} (hb : w.heap[b]? = some (.cells #[.int .i64 0, .int .i64 0, .slice none 0 0] t (0, 0))) (a0 a1 a2 : Value) : RowE (((w.setCell ⟨b, 0, none⟩ a0).setCell ⟨b, 1, none⟩ a1).setCell ⟨b, 2, none⟩ a2) A ys := by
 intro h0
 refine h.set3 (fun a e => ?_) a0 a1 a2 h0
 intro hab
 obtain ⟨g, o, rfl, _, hc⟩ := h h0
 simp only [Option.some.injEq] at e
 subst e
 simp only at hab
 subst hab
 have c1 := (hc 0 h0).2.2
 rw [cell_of_row _ _ _ _ _ _ hb] at c1
 match o, c1 with
 | 0, c1 => simp at c1
 | o + 1, c1 => simp at c1
theorem box3 {w : World} {b : Nat} {x0 x1 x2 : Value} {t : TypeId} (h : w.heap[b]? = some (.cells #[x0, x1, x2] t (0, 0))) (a0 a1 : Value) (o : Obj) :
  ((w.setCell ⟨b, 0, none⟩ a0).alloc o).cell? ⟨b, 1, none⟩ = some x1 ∧ ((w.setCell ⟨b, 0, none⟩ a0).alloc o).frozen? ⟨b, 1, none⟩ = false ∧
  (((w.setCell ⟨b, 0, none⟩ a0).setCell ⟨b, 1, none⟩ a1).alloc o).cell? ⟨b, 2, none⟩ = some x2 ∧ (((w.setCell ⟨b, 0, none⟩ a0).setCell ⟨b, 1, none⟩ a1).alloc o).frozen? ⟨b, 2, none⟩ = false := by
 have hl : b < w.heap.size := (Array.getElem?_eq_some_iff.1 h).1
 have h1 : (w.setCell ⟨b, 0, none⟩ a0).heap[b]? = some (.cells #[a0, x1, x2] t (0, 0)) := by simp [World.setCell, Array.getElem?_modify, h]
 have h2 : ((w.setCell ⟨b, 0, none⟩ a0).setCell ⟨b, 1, none⟩ a1).heap[b]? = some (.cells #[a0, a1, x2] t (0, 0)) := by simp [World.setCell, Array.getElem?_modify, h]
 have g1 := (heap_alloc_old (w.setCell ⟨b, 0, none⟩ a0) o (by simpa [World.setCell] using hl)).trans h1
 have g2 := (heap_alloc_old ((w.setCell ⟨b, 0, none⟩ a0).setCell ⟨b, 1, none⟩ a1) o (by simpa [World.setCell] using hl)).trans h2
 obtain ⟨_, p1, _, f1⟩ := at3 g1
 obtain ⟨_, _, p2, f2⟩ := at3 g2
 exact ⟨p1, f1 1, p2, f2 2⟩
theorem RowI.set3 {w : World} {A : Option Addr} {zs : List Int} (h : RowI w A zs) {b : Nat} (hb : ∀ a, A = some a → a.block ≠ b) (a0 a1 a2 : Value) : RowI (((w.setCell ⟨b, 0, none⟩ a0).setCell ⟨b, 1, none⟩ a1).setCell ⟨b, 2, none⟩ a2) A zs := by
 intro h0
 obtain ⟨g, o, rfl, hg, hc⟩ := h h0
 have hne := hb _ rfl
 have hk : ∀ p : Addr, p.block = g → (((w.setCell ⟨b, 0, none⟩ a0).setCell ⟨b, 1, none⟩ a1).setCell ⟨b, 2, none⟩ a2).cell? p = w.cell? p := fun p hp => by
  refine World.cell?_of_block ?_
  rw [Below.heap_setCell _ _ _ _ (by rw [hp]; exact hne), Below.heap_setCell _ _ _ _ (by rw [hp]; exact hne), Below.heap_setCell _ _ _ _ (by rw [hp]; exact hne)]
 exact ⟨g, o, rfl, by simpa [World.setCell] using hg, fun k hkk => (hk _ rfl).trans (hc k hkk)⟩
theorem step_appE {w : World} {ops : Array Oper} {o : Oper} {a : Act} {K : Act → World → Prop} {Q : Exit → Act → World → Prop} {E : Prop} (hgd : o.guard = none) (s x : Operand)
  (ho : o.op = .call { callee := .builtin .append, args := #[s, x], argTypes := #[22, 22] })
  (B : Nat) (v : Value) (xs : List Edg) (hs : a.eval s = v) (hown : Eds w B v xs)
  (g : Nat) (y : Edg) (hx : a.eval x = .slice (some ⟨g, 0, none⟩) 1 1) (hblk : w.heap[g]? = some (.cells y.cells.toArray 72 (0, 0)))
  (hb : xs.length + 1 ≤ 4294967296) (hbase : B ≤ w.heap.size)
  (h : ∀ v' w', Eds w' B v' (xs ++ [y]) → w.grownBy w' v.ownBlock → (v'.ownBlock = v.ownBlock ∨ v'.ownBlock = some w.heap.size) → K (a.put o.dst v') w') :
  if Region.wanted o (yielded ops a.tmps) = true then Oper.wp Tryz.prog o a w K Q else E := by
 have hw : Region.wanted o (yielded ops a.tmps) = true := by simp [Region.wanted, hgd]
 rw [if_pos hw]
 obtain ⟨i0, hi, hz0, hz1, hz2⟩ := info_parts infoEdge
 obtain ⟨v', w', hr, h2, h3, _, h5⟩ := run_append_own_at (P := Tryz.prog) w B 22 o.type 72 i0 _ 3 24 Tryz.underlying22 hi hz0 hz1 hz2 rfl (by decide) v xs.length (xs.flatMap Edg.cells) hown ⟨g, 0, none⟩ 1 1 y.cells rfl (by
  intro j u hj
  have : (⟨g, 0, none⟩ : Addr).add j = ⟨g, j, none⟩ := by unfold Addr.add; split <;> simp_all
  rw [this, cell_of_row w g j _ 72 (0, 0) hblk]
  simpa using hj) (by
  intro u hu
  simp [Edg.cells] at hu
  rcases hu with rfl | rfl | rfl <;> rfl) (by unfold maxLen; omega) (by omega) hbase
 unfold Oper.wp execOp
 simp only [ho, resolve, invoke, builtin, Sem.run_bind, Sem.run_pure, Result.andThen_ok, List.map_toArray, List.map_cons, List.map_nil, hs, hx, hr]
 refine h v' w' ?_ h3 h5
 unfold Eds
 rw [List.length_append, List.flatMap_append]
 simpa using h2
theorem row_neA {w : World} {B B' : Nat} {e e' : TypeId} {size size' n n' : Nat} {v v' : Value} {xs xs' : List Value} (he : e ≠ e') (h : w.ownsRow B e size v n xs) (h' : w.ownsRow B' e' size' v' n' xs') : v.ownBlock = none ∨ v.ownBlock ≠ v'.ownBlock := by
 rcases h.2 with ⟨rfl, _⟩ | ⟨g, cap, cur, rfl, hb, hg, _⟩
 ·exact .inl rfl
 ·right
  intro hh
  rcases h'.2 with ⟨rfl, _⟩ | ⟨g', cap', cur', rfl, hb', hg', _⟩
  ·cases hh
  ·simp [Value.ownBlock] at hh
   subst hh
   rw [hg] at hg'
   simp at hg'
   exact he hg'.2
theorem ApS.ed {W W' : World} {Z S E : Nat} {F : Nat → Value} {X : Nat → List Int} (h : ApS W Z S E F X) {lv : Value} {l : List Edg} (hE : Eds W (Z + 2) lv l) (hg : W.grownBy W' lv.ownBlock) : ApS W' Z S E F X := by
 have hl := h.lt
 obtain ⟨zs, hzl, hz⟩ := h.oblk
 have hge : ∀ k, some k = lv.ownBlock → Z + 2 ≤ k := fun k e => (World.ownsRow.lt hE k e.symm).1
 refine ⟨⟨fun i hi => (h.fam.row i hi).carry fun k e => hg.block k ((h.fam.row i hi).own_in e).2 fun e2 => ?_, h.fam.dist⟩, (hg.block Z (by omega) fun e => by have := hge _ e; omega).trans h.cblk, zs, hzl, (hg.block (Z + 1) (by omega) fun e => by have := hge _ e; omega).trans hz⟩
 rcases row_neA (by decide) (h.fam.row i hi) hE with h1 | h1
 ·rw [h1] at e; cases e
 ·exact h1 (e.symm.trans e2)
set_option maxRecDepth 100000 in
set_option maxHeartbeats 8000000 in
theorem spApply_any (L S m : Int) (es : List Edg) (A : Option Addr) (c : Nat) (D : Option Addr) (cv : Nat) (vs : List Int) (ss : List Spl) (R : Option Addr) (q : Nat) (w : World) (hr : RowE w A es) (hl : vs.length ≤ 4294967296) (hv : RowI w D vs) (hR : RowSp w R ss) (hrl : ss.length ≤ 4294967296) (hok : SplS ss) :
  Calls Tryz.prog 111 #[.agg #[.int .i64 L, .int .i64 S, .slice A es.length c], .slice D vs.length cv, .int .i64 m, .slice R ss.length q] w fun e w' => ApP w.heap.size w' e ∧ Below w.heap.size w w' := by
 obtain ⟨G, hG⟩ : ∃ G, w.heap.size = G := ⟨_, rfl⟩
 obtain ⟨W0, hW0⟩ : ∃ W0, W0 = (w.alloc (.cells #[.int .i64 L, .int .i64 S, .slice A es.length c] 24)).alloc (.cells #[.int .i64 0, .int .i64 0, .slice none 0 0] 24) := ⟨_, rfl⟩
 have hB0 : Below G w W0 := by rw [hW0, ← hG]; exact ((Below.refl _ w).alloc (Nat.le_refl _) _).alloc (by simp) _
 have hg0 : W0.heap[G]? = some (.cells #[.int .i64 L, .int .i64 S, .slice A es.length c] 24 (0, 0)) := by
  rw [hW0, ← hG, heap_alloc_old _ _ (by simp)]; exact heap_alloc_new w _
 have hr0 : W0.heap[G + 1]? = some (.cells #[.int .i64 0, .int .i64 0, .slice none 0 0] 24 (0, 0)) := by
  rw [hW0, ← hG]
  have := heap_alloc_new (w.alloc (.cells #[.int .i64 L, .int .i64 S, .slice A es.length c] 24)) (.cells #[.int .i64 0, .int .i64 0, .slice none 0 0] 24)
  rwa [World.size_alloc] at this
 have hz0 : W0.heap.size = G + 2 := by rw [hW0]; simp; omega
 have HCk := hide (spCheck_any L S m es A c D cv vs ss R q W0 (hr.below (hG.symm ▸ hB0)) hl (hv.below (hG.symm ▸ hB0)) (hR.below (hG.symm ▸ hB0)) hrl hok)
 have HRe := hide (fun W (h : Below G w W) => hr.below (hG.symm ▸ h))
 have HVi := hide (fun W (h : Below G w W) => hv.below (hG.symm ▸ h))
 have HSp := hide (fun W (h : Below G w W) => hR.below (hG.symm ▸ h))
 have HOk := hide hok
 have HG := hide hG
 obtain ⟨x0, x1, x2, _⟩ := at3 hg0
 rw [hG]
 rw [← hG, hW0] at x0 x1 x2
 clear hr hv hR hok hG
 go_enter Tryz.func111, Tryz.ntmps111
 go_wp2_with fail
 rw [← hW0]
 try rw [HG.out]
 clear x0 x1 x2 hW0
 (with_reducible refine HCk.out.mono ?_)
 rintro e w1 ⟨⟨r, rfl, hacc⟩, hB1⟩
 have hB1' := hB0.trans (hB1.mono (by omega))
 have hg1 := (hB1.block G (by omega)).trans hg0
 have hr1 := (hB1.block (G + 1) (by omega)).trans hr0
 have hz1 : G + 2 ≤ w1.heap.size := by have := hB1.size; omega
 clear hB1 hg0 hr0 HCk hB0 hz0
 obtain ⟨a0, a1, a2, _⟩ := at3 hg1
 obtain ⟨b0, b1, b2, bf⟩ := at3 hr1
 by_cases h0 : r = 0
 ·subst h0
  obtain ⟨hba, hsp⟩ := hacc rfl
  have HX := hide hsp
  obtain ⟨hGr, hWt⟩ : okG L S es = true ∧ okW S m vs = true := by
   unfold baseB eigB at hba
   simp only [Bool.and_eq_true] at hba
   exact ⟨hba.1.1.1.1, hba.1.1.1.2⟩
  obtain ⟨hm1, _, hvl, _⟩ := okW_parts hWt
  obtain ⟨_, hS64, hel⟩ := okG_size hGr
  have HIn := hide (okG_in hGr hvl.symm)
  have HGr := hide hGr
  subst hvl
  have hmk1 := fun W => mk_intssA vs.length (by omega) W
  have hmk2 := fun W => mk_intsA es.length (by omega) W
  obtain ⟨Z, hZ⟩ : ∃ Z, w1.heap.size = Z := ⟨_, rfl⟩
  have hA0 := ApS.start w1 vs.length es.length
  have hBa : Below Z w1 (w1.alloc (.cells (Array.replicate vs.length (.slice none 0 0)) 31)) := by rw [← hZ]; exact (Below.refl _ _).alloc (Nat.le_refl _) _
  have hBb : Below Z w1 ((w1.alloc (.cells (Array.replicate vs.length (.slice none 0 0)) 31)).alloc (.cells (Array.replicate es.length (.int .i64 0)) 3)) := hBa.alloc (by simp; omega) _
  have HG1 := hide (fun W (h : Below Z w1 W) => show Below G w W ∧ W.heap[G]? = some (.cells #[.int .i64 L, .int .i64 (vs.length : Int), .slice A es.length c] 24 (0, 0)) ∧ W.heap[G + 1]? = some (.cells #[.int .i64 0, .int .i64 0, .slice none 0 0] 24 (0, 0)) from ⟨hB1'.trans (h.mono (by omega)), (h.block G (by omega)).trans hg1, (h.block (G + 1) (by omega)).trans hr1⟩)
  obtain ⟨ca0, ca1, ca2, _⟩ := at3 (HG1.out _ hBa).2.1
  obtain ⟨cb0, cb1, cb2, _⟩ := at3 (HG1.out _ hBb).2.1
  clear hacc hba hsp hGr hWt hg1 hr1 b0 b1 b2 bf hB1'
  go_wp2_with fail
  have HA0 := hide hA0
  rw [hZ] at HA0
  have HBb := hide hBb
  have HZ1 := hide (show G + 2 ≤ Z by omega)
  have HZw := hide hZ
  have HOu := hide (fun s (hs : 0 ≤ s ∧ s < (vs.length : Int)) W (h : Below Z w1 W) => grOut_any L vs.length s es A c W HGr.out hs (HRe.out W (HG1.out W h).1))
  have HIf := hide (fun s c0 W (h : Below Z w1 W) (hc : W.cell? ⟨c0, 0, none⟩ = some (.int .i64 s)) => slIfSp_any s ss R q c0 W (HSp.out W (HG1.out W h).1) hrl hc)
  have HWt := hide (fun k (hk : k < ss.length) (P : Option Addr) (p : Nat) W (h : Below Z w1 W) (hP : RowD W P ss[k].2) => spWts_any L vs.length m ss[k].1 es A c vs D cv ss[k].2 P p W (HRe.out W (HG1.out W h).1) (HVi.out W (HG1.out W h).1) hP hm1 ⟨(HX.out _ (List.getElem_mem hk)).1, (HX.out _ (List.getElem_mem hk)).2.1⟩ (by omega) hel (HOk.out _ (List.getElem_mem hk)).1 ((HX.out _ (List.getElem_mem hk)).2.2.pts HIn.out) fun x hx => by have := flat_part hx; have := (HOk.out _ (List.getElem_mem hk)).2; omega)
  clear hA0 hBa hBb a0 a1 a2 ca0 ca1 ca2 cb0 cb1 cb2 hmk1 hmk2 hZ hz1
  go_loopw [13, 14, 52] (fun pv hv iv wr => ∃ (s np : Nat) (F : Nat → Value) (X : Nat → List Int), s ≤ vs.length ∧ iv = .int .i64 s ∧ pv = F 0 ∧ hv = F 1 ∧ Hid (ApS wr Z vs.length es.length F X) ∧
   Hid ((X 0).length = np ∧ (X 1).length = np ∧ np ≤ s * 1024 ∧ (∀ j, s ≤ j → X (j + 4) = []) ∧ ∀ j, (X (j + 4)).length ≤ 1024) ∧ Hid (Below Z w1 wr)) (fun _ _ iv _ => vs.length - (intOf iv).toNat)
  case atStart => exact ⟨0, 0, fun _ => .slice none 0 0, fun _ => [], Nat.zero_le _, rfl, rfl, rfl, HA0, hide ⟨rfl, rfl, Nat.zero_le _, fun _ _ => rfl, fun _ => Nat.zero_le _⟩, HBb⟩
  case round =>
   obtain ⟨s, np, F, X, hs, rfl, rfl, rfl, HA, HL, HB⟩ := hrel
   by_cases hlt : s < vs.length
   ·have hs0 : (0 : Int) ≤ (s : Int) := by omega
    have hs1 : (s : Int) < (vs.length : Int) := by omega
    obtain ⟨N, hN⟩ : ∃ N, wr.heap.size = N := ⟨_, rfl⟩
    have hZN : Z + 2 ≤ N := by have := HA.out.lt; omega
    have hB1 : Below Z w1 (wr.alloc (.cells #[.int .i64 s] 3)) := HB.out.alloc (by omega) _
    have hc1 := (cell_of_row _ _ 0 _ _ _ (heap_alloc_new wr (.cells #[.int .i64 (s : Int)] 3))).trans rfl
    simp only [List.getElem?_toArray, List.getElem?_cons_zero] at hc1
    have hA0r := HA.out
    have hA1 := hA0r.alloc (.cells #[.int .i64 s] 3)
    have hz1 : (wr.alloc (.cells #[.int .i64 s] 3)).heap.size = N + 1 := by simp; omega
    obtain ⟨a0, a1, a2, _⟩ := at3 (HG1.out _ hB1).2.1
    have HO2 := hide (HOu.out s ⟨hs0, hs1⟩ _ hB1)
    have hn1 := heap_alloc_new wr (.cells #[.int .i64 (s : Int)] 3)
    have HNN := hide hN
    clear HA HB HOu
    go_wp2_with fail
    (with_reducible refine HO2.out.mono ?_)
    rintro e w2 ⟨vo, rfl, hIo, hB2⟩
    have hA2 := hA1.put (i := 3) (by decide) hB2 hIo
    have hfx : ∀ i, i < vs.length + 4 → (upd F 3 vo i).ownBlock ≠ some wr.heap.size := fun i hi e => by
     by_cases e3 : i = 3
     ·subst e3; rw [upd_at] at e; have := (hIo.own_in e.symm).1; omega
     ·rw [upd_no _ _ e3] at e; have := ((hA0r.fam.row i hi).own_in e.symm).2; omega
    have hB2' : Below Z w1 w2 := hB1.trans (hB2.mono (by omega))
    have hn2 := (hB2.block wr.heap.size (by omega)).trans hn1
    have hz2 : N + 1 ≤ w2.heap.size := by have := hB2.size; omega
    obtain ⟨ad, cp, rfl⟩ := hIo.shape
    obtain ⟨lv, hlv⟩ : ∃ lv, lvI es s = lv := ⟨_, rfl⟩
    have hlm : ∀ x ∈ lv, ∃ k : Nat, x = k ∧ k < es.length := fun x hx => by
     rw [← hlv] at hx
     obtain ⟨k, hk, hk2, _⟩ := mem_lvI hx
     exact ⟨k, hk, hk2⟩
    have hll : lv.length ≤ es.length := hlv ▸ lvI_le es s
    rw [hlv] at hA2 hIo hfx ⊢
    obtain ⟨Pb, hPb⟩ : ∃ Pb, w2.heap.size = Pb := ⟨_, rfl⟩
    obtain ⟨vc, hvc⟩ : ∃ vc, vs[s] = vc := ⟨_, rfl⟩
    have hB3a : Below Z w1 (w2.alloc (.cells #[.slice ad lv.length cp] 31)) := hB2'.alloc (by omega) _
    have hn3a := (heap_alloc_old w2 (.cells #[.slice ad lv.length cp] 31) (by omega : wr.heap.size < _)).trans hn2
    have d0 := (cell_of_row _ _ 0 _ _ _ hn3a).trans rfl
    simp only [List.getElem?_toArray, List.getElem?_cons_zero] at d0
    obtain ⟨bD, oD, hD, _, hcD⟩ := HVi.out _ (HG1.out _ hB3a).1 (by omega)
    obtain ⟨bD2, oD2, hD2, _, hcD2⟩ := HVi.out _ (HG1.out _ hB2').1 (by omega)
    obtain ⟨rfl, rfl⟩ : bD2 = bD ∧ oD2 = oD := by rw [hD] at hD2; simp at hD2; exact ⟨hD2.1.symm, hD2.2.symm⟩
    have d2 := hcD s hlt
    rw [hvc] at d2
    have e1 := hcD2 s hlt
    rw [hvc] at e1
    have e0 := (cell_of_row _ _ 0 _ _ _ hn2).trans rfl
    simp only [List.getElem?_toArray, List.getElem?_cons_zero] at e0
    rw [hN] at d0 e0
    have HTA := hide (twoA (vc := vc) (vo := .slice ad lv.length cp) hA2 hB2' hn2 (by omega) hfx)
    have HTB := hide (twoB (vc := vc) (vo := .slice ad lv.length cp) hA2 hB2' hn2 (by omega) hfx)
    rw [hN, hPb] at HTA HTB
    clear hIo hB2 hA1 hA2 hn1 hn2 hn3a hcD hcD2 hD2 hc1 hB1 HO2 hvc hA0r hfx a0 a1 a2 hlv
    subst hD
    go_wp2_with fail
    go_region
    all_goals
     first
     | (with_reducible show Exit.then _ _ _ _ ((w2.alloc (.cells #[.slice ad lv.length cp] 31)).alloc (.cells #[.int .i64 vc] 3)).drew; have HT := HTA.out; generalize ((w2.alloc (.cells #[.slice ad lv.length cp] 31)).alloc (.cells #[.int .i64 vc] 3)).drew = w3 at HT ⊢; obtain ⟨PB, hPB⟩ : ∃ PB, PB = Pb := ⟨_, rfl⟩; obtain ⟨QB, hQB⟩ : ∃ QB, QB = Pb + 1 := ⟨_, rfl⟩; rw [← hQB, ← hPB] at HT ⊢)
     | (have HT := HTB.out; generalize ((w2.alloc (.cells #[.int .i64 vc] 3)).alloc (.cells #[.slice ad lv.length cp] 31)).drew = w3 at HT ⊢; obtain ⟨PB, hPB⟩ : ∃ PB, PB = Pb + 1 := ⟨_, rfl⟩; obtain ⟨QB, hQB⟩ : ∃ QB, QB = Pb := ⟨_, rfl⟩; rw [← hPB, ← hQB] at HT ⊢)
     have d1 := (cell_of_row _ _ 0 _ _ _ HT.hn).trans rfl
     have hB3 := HT.bel
     simp only [List.getElem?_toArray, List.getElem?_cons_zero] at d1
     have HI2 := hide (HIf.out s N w3 hB3 d1)
     clear hPB hQB HTA HTB d0 d2 e0 e1 hB3a hPb hz2
     go_wp2_with fail
     (with_reducible refine HI2.out.mono ?_)
     rintro e w4 ⟨hix, hB4⟩
     have hT4 := HT.below hB4
     have f0 : upd (upd F 3 (Value.slice ad lv.length cp)) 2 (.slice (some ⟨QB, 0, none⟩) 1 1) 0 = F 0 := rfl
     have f1 : upd (upd F 3 (Value.slice ad lv.length cp)) 2 (.slice (some ⟨QB, 0, none⟩) 1 1) 1 = F 1 := rfl
     have f2 : upd (upd F 3 (Value.slice ad lv.length cp)) 2 (.slice (some ⟨QB, 0, none⟩) 1 1) 2 = .slice (some ⟨QB, 0, none⟩) 1 1 := rfl
     have f3 : upd (upd F 3 (Value.slice ad lv.length cp)) 2 (.slice (some ⟨QB, 0, none⟩) 1 1) 3 = .slice ad lv.length cp := rfl
     have y2 : upd (upd X 3 lv) 2 [vc] 2 = [vc] := rfl
     have y3 : upd (upd X 3 lv) 2 [vc] 3 = lv := rfl
     have hL4 : (upd (upd X 3 lv) 2 [vc] 0).length = np ∧ (upd (upd X 3 lv) 2 [vc] 1).length = np ∧ np ≤ s * 1024 ∧ (∀ j, s ≤ j → upd (upd X 3 lv) 2 [vc] (j + 4) = []) ∧ ∀ j, (upd (upd X 3 lv) 2 [vc] (j + 4)).length ≤ 1024 := HL.out
     generalize upd (upd F 3 (Value.slice ad lv.length cp)) 2 (.slice (some ⟨QB, 0, none⟩) 1 1) = F1 at hT4 f0 f1 f2 f3
     generalize upd (upd X 3 lv) 2 [vc] = X1 at hT4 y2 y3 hL4
     rw [← f0, ← f1]
     have HT4 := hide hT4
     have HL4 := hide hL4
     have HY3 := hide (And.intro f3 y3)
     clear f0 f1 hL4 HL HI2 hB4 HT f3 y3 hB3 d1
     rcases hix with rfl | ⟨k, hk, hks, rfl⟩
     case' inl =>
      obtain ⟨K, hK⟩ : ∃ K : Nat, K = 1 := ⟨1, rfl⟩
      rw [show Value.slice (some ⟨PB, 0, none⟩) 1 1 = Value.slice (some ⟨PB, 0, none⟩) K 1 by rw [hK], show Value.slice (some ⟨QB, 0, none⟩) 1 1 = Value.slice (some ⟨QB, 0, none⟩) K 1 by rw [hK]]
      have HK := hide hK
      clear hK
      have HT5 := HT4
      have HF5 := hide (show F1 2 = .slice (some ⟨QB, 0, none⟩) K 1 ∧ (X1 2).length = K ∧ F1 3 = .slice ad lv.length cp ∧ X1 3 = lv from ⟨by rw [f2, HK.out], by rw [y2, HK.out]; rfl, HY3.out.1, HY3.out.2⟩)
      obtain ⟨ps, hps⟩ : ∃ ps, ps = [lv] := ⟨_, rfl⟩
      have HPK := hide (show ps.length = K ∧ K ≤ 1024 ∧ ∀ p ∈ ps, p.length ≤ 4194304 from by rw [hps, HK.out]; exact ⟨rfl, by decide, fun p hp => by simp at hp; subst hp; omega⟩)
      have HPx := hide (show ∀ p ∈ ps, ∀ x ∈ p, ∃ k : Nat, x = k ∧ k < es.length from fun p hp x hx => by rw [hps] at hp; simp at hp; subst hp; exact hlm x hx)
      have HPR := hide (show PartsP w1 Z vs.length es.length N PB s (.slice ad lv.length cp) lv (some ⟨PB, 0, none⟩) ps from ⟨PB, 0, fun _ => (ad, cp), rfl, fun W F' X' h h3 x3 j hj => by
       subst hps
       obtain rfl : j = 0 := by simp at hj; omega
       have hr3 := h.st.fam.row 3 (by omega)
       rw [h3, x3] at hr3
       exact ⟨(cell_of_row _ _ 0 _ _ _ h.hp).trans rfl, hr3.rowA.2⟩⟩)
      have HL5 := HL4
      clear HT4 HL4 f2 y2 HY3 HK hps
      generalize F1 = F2 at HT5 HF5 ⊢
      generalize X1 = X2 at HT5 HF5 HL5
      go_wp2_with fail
     case' inr =>
      have hB4x := HT4.out.bel
      obtain ⟨gq, gb, _⟩ := HG1.out w4 hB4x
      obtain ⟨bR, oR, hRr, hbR1, hcR⟩ := HSp.out w1 (HG1.out w1 (Below.refl _ _)).1 (by omega)
      subst hRr
      obtain ⟨c1', P, p, c2', hP'⟩ := hcR k hk
      have hbRZ : bR < Z := HZw.out ▸ hbR1
      have hbR : bR < w4.heap.size := by have := HT4.out.st.lt; omega
      have HPd := hide (fun W (h : Below Z w1 W) => hP'.below (HZw.out.symm ▸ h))
      have c1 := (hB4x.cell (p := ⟨bR, oR + k * 2, none⟩) hbRZ).trans c1'
      have c2 := (hB4x.cell (p := ⟨bR, oR + k * 2 + 1, none⟩) hbRZ).trans c2'
      have hP := HPd.out w4 hB4x
      have HWx := hide (HWt.out k hk P p w4.drew hB4x.drew (hP.drewN 1))
      have HPt := hide (HX.out _ (List.getElem_mem hk)).2.2
      have HPs := hide (HOk.out _ (List.getElem_mem hk)).2
      clear c1' c2' hP'
      obtain ⟨y, hy⟩ : ∃ y, ss[k] = y := ⟨_, rfl⟩
      rw [hy] at c1 c2 hP HWx HPt HPd HPs hks
      obtain ⟨t, ps⟩ := y
      simp only at c1 c2 hP HWx HPt HPd HPs hks
      subst hks
      have hkk0 : (0 : Int) ≤ (k : Int) := by omega
      have hkk1 : (k : Int) < (ss.length : Int) := by omega
      obtain ⟨s0, s1, s2, _⟩ := at3 gb
      have e0 : w4.drew.cell? ⟨G, 0, none⟩ = some (.int .i64 L) := s0
      have e1 : w4.drew.cell? ⟨G, 1, none⟩ = some (.int .i64 (vs.length : Int)) := s1
      have e2 : w4.drew.cell? ⟨G, 2, none⟩ = some (.slice A es.length c) := s2
      have e3 : w4.drew.cell? ⟨bR, oR + k * 2, none⟩ = some (.int .i64 (s : Int)) := c1
      have e4 : w4.drew.cell? ⟨bR, oR + k * 2 + 1, none⟩ = some (.slice P ps.length p) := c2
      have HFx := hide (fun W (h : Below w4.drew.heap.size w4.drew W) => show W.cell? ⟨G, 0, none⟩ = some (.int .i64 L) ∧ W.cell? ⟨G, 1, none⟩ = some (.int .i64 (vs.length : Int)) ∧ W.cell? ⟨G, 2, none⟩ = some (.slice A es.length c) ∧ W.cell? ⟨bR, oR + k * 2, none⟩ = some (.int .i64 (s : Int)) ∧ W.cell? ⟨bR, oR + k * 2 + 1, none⟩ = some (.slice P ps.length p) from by
       have hGl : G < w4.heap.size := (Array.getElem?_eq_some_iff.1 gb).1
       exact ⟨(h.cell (p := ⟨G, 0, none⟩) hGl).trans e0, (h.cell (p := ⟨G, 1, none⟩) hGl).trans e1, (h.cell (p := ⟨G, 2, none⟩) hGl).trans e2, (h.cell (p := ⟨bR, oR + k * 2, none⟩) hbR).trans e3, (h.cell (p := ⟨bR, oR + k * 2 + 1, none⟩) hbR).trans e4⟩)
      have HT4d := hide (HT4.out.drewN 1)
      clear hcR hy gq gb hB4x
      go_wp2_with fail
      go_region_held3 (fun W => W.cell? ⟨G, 0, none⟩ = some (.int .i64 L) ∧ W.cell? ⟨G, 1, none⟩ = some (.int .i64 (vs.length : Int)) ∧ W.cell? ⟨G, 2, none⟩ = some (.slice A es.length c) ∧ W.cell? ⟨bR, oR + k * 2, none⟩ = some (.int .i64 (s : Int)) ∧ W.cell? ⟨bR, oR + k * 2 + 1, none⟩ = some (.slice P ps.length p))
       (first | with_reducible exact ⟨e0, e1, e2, e3, e4⟩)
       (first | (go_at_call 169; with_reducible refine HWx.out.mono ?_; rintro e w5 ⟨v5, b5, rfl, ⟨zs, hI5, hzl⟩, hB5⟩; clear e0 e1 e2 e3 e4; obtain ⟨e0, e1, e2, e3, e4⟩ := HFx.out w5 hB5))
      have HT5 := hide (HT4d.out.put (i := 2) (by decide) hB5 hI5)
      obtain ⟨ad5, cp5, rfl⟩ := hI5.shape
      obtain ⟨K, hK⟩ : ∃ K, ps.length = K := ⟨_, rfl⟩
      have hKl : K ≤ 1024 := by
       have h1 := HPt.out.2.2
       have h2 : ps.length ≤ ps.flatten.length := len_flat fun p hp => (HPt.out.2.1 p hp).1
       have h3 := lvI_le es s
       omega
      rw [hzl, hK] at HT5 ⊢
      have HF5 := hide (show upd F1 2 (Value.slice ad5 K cp5) 2 = .slice ad5 K cp5 ∧ (upd X1 2 zs 2).length = K ∧ upd F1 2 (Value.slice ad5 K cp5) 3 = .slice ad lv.length cp ∧ upd X1 2 zs 3 = lv from ⟨rfl, by rw [← hK, ← hzl]; rfl, HY3.out.1, HY3.out.2⟩)
      have HPK := hide (show ps.length = K ∧ K ≤ 1024 ∧ ∀ p ∈ ps, p.length ≤ 4194304 from ⟨hK, hKl, fun p hp => Nat.le_trans (flat_part hp) HPs.out⟩)
      have HPx := hide (show ∀ p ∈ ps, ∀ x ∈ p, ∃ k : Nat, x = k ∧ k < es.length from fun p hp x hx => by
       obtain ⟨k, hk, hk2, _⟩ := mem_lvI ((HPt.out.2.1 p hp).2 x hx)
       exact ⟨k, hk, hk2⟩)
      have HPR := hide (show PartsP w1 Z vs.length es.length N PB s (.slice ad lv.length cp) lv P ps from by
       obtain ⟨bp, op, f, hP, hf⟩ := RowD.fix (HPd.out w1 (Below.refl _ _)) (by have := HPt.out.1; omega)
       exact ⟨bp, op, f, hP, fun W F' X' h _ _ => hf W (HZw.out.symm ▸ h.bel)⟩)
      have HL5 := hide (show (upd X1 2 zs 0).length = np ∧ (upd X1 2 zs 1).length = np ∧ np ≤ s * 1024 ∧ (∀ j, s ≤ j → upd X1 2 zs (j + 4) = []) ∧ ∀ j, (upd X1 2 zs (j + 4)).length ≤ 1024 from HL4.out)
      rw [show F1 0 = upd F1 2 (Value.slice ad5 K cp5) 0 from rfl, show F1 1 = upd F1 2 (Value.slice ad5 K cp5) 1 from rfl]
      have HPt0 := hide HPt.out.1
      clear HT4 HT4d HL4 f2 y2 HY3 hK hzl hI5 hB5 e0 e1 e2 e3 e4 HFx HPd hP c1 c2 s0 s1 s2 HPt HWx hKl
      generalize upd F1 2 (Value.slice ad5 K cp5) = F2 at HT5 HF5 ⊢
      generalize upd X1 2 zs = X2 at HT5 HF5 HL5
      obtain ⟨gq, cq, hq, _⟩ := (HT5.out.st.fam.row 2 (by omega)).form (by rw [HF5.out.2.1]; have := HPt0.out; have := HPK.out.1; omega)
      have eq5 := (Value.slice.inj (HF5.out.1.symm.trans hq)).1
      subst eq5
      clear hq
      go_wp2_with fail
     all_goals
      obtain ⟨bp, op, pf, hpe, hpf⟩ := HPR.out
      cases hpe
      have HPF := hide hpf
      clear hpf HPR
      go_loopw [13, 14, 91] (fun pv hv iv wr => ∃ (i np' : Nat) (F : Nat → Value) (X : Nat → List Int), i ≤ K ∧ iv = .int .i64 i ∧ pv = F 0 ∧ hv = F 1 ∧ Hid (ApB w1 wr Z vs.length es.length N PB s (.slice ad lv.length cp) F X) ∧
       Hid (F 2 = F2 2 ∧ X 2 = X2 2 ∧ F 3 = .slice ad lv.length cp ∧ X 3 = lv) ∧
       Hid ((X 0).length = np' ∧ (X 1).length = np' ∧ np' ≤ s * 1024 + i ∧ (X (s + 4)).length = i ∧ (∀ j, s < j → X (j + 4) = []) ∧ ∀ j, (X (j + 4)).length ≤ 1024)) (fun _ _ iv _ => K - (intOf iv).toNat)
      case atStart => exact ⟨0, np, F2, X2, Nat.zero_le _, rfl, rfl, rfl, HT5, hide ⟨rfl, rfl, HF5.out.2.2.1, HF5.out.2.2.2⟩, hide ⟨HL5.out.1, HL5.out.2.1, HL5.out.2.2.1, by rw [HL5.out.2.2.2.1 s (Nat.le_refl _)]; rfl, fun j hj => HL5.out.2.2.2.1 j (by omega), HL5.out.2.2.2.2⟩⟩
      case round =>
       obtain ⟨i, np', F9, X9, hi, rfl, rfl, rfl, HA, HF, HL⟩ := hrel
       by_cases hik : i < K
       ·have hpi : i < ps.length := by rw [HPK.out.1]; exact hik
        obtain ⟨ci, -⟩ := HPF.out wr F9 X9 HA.out HF.out.2.2.1 HF.out.2.2.2 i hpi
        have HRi := hide (fun W (h : ApB w1 W Z vs.length es.length N PB s (.slice ad lv.length cp) F9 X9) => (HPF.out W F9 X9 h HF.out.2.2.1 HF.out.2.2.2 i hpi).2)
        have HEi := hide (HPx.out _ (List.getElem_mem hpi))
        have hpl : ps[i].length ≤ 4194304 := HPK.out.2.2 _ (List.getElem_mem hpi)
        obtain ⟨p, hp⟩ : ∃ p, ps[i] = p := ⟨_, rfl⟩
        obtain ⟨pd, hpd⟩ : ∃ pd, (pf i).1 = pd := ⟨_, rfl⟩
        obtain ⟨pc, hpc⟩ : ∃ pc, (pf i).2 = pc := ⟨_, rfl⟩
        rw [hp, hpd, hpc] at ci
        rw [hp, hpd] at HRi
        rw [hp] at HEi hpl
        obtain ⟨a0, c0, h0⟩ := (HA.out.st.fam.row 0 (by omega)).shape
        obtain ⟨a1, c1, h1⟩ := (HA.out.st.fam.row 1 (by omega)).shape
        have hi0 : (0 : Int) ≤ (i : Int) := by omega
        have hi1 : (i : Int) < (K : Int) := by omega
        try simp only [Nat.zero_add] at ci
        clear hp hpd hpc hpi
        rw [h0, h1, HL.out.1, HL.out.2.1]
        rw [HL.out.1] at h0
        rw [HL.out.2.1] at h1
        have H0 := hide h0
        have H1 := hide h1
        clear h0 h1
        go_wp2_with fail
        go_loopw [98] (fun jv wx => ∃ j : Nat, j ≤ p.length ∧ jv = .int .i64 j ∧ Hid (ApB w1 wx Z vs.length es.length N PB s (.slice ad lv.length cp) F9 X9)) (fun jv _ => p.length - (intOf jv).toNat)
        case atStart => exact ⟨0, Nat.zero_le _, rfl, HA⟩
        case round =>
         obtain ⟨j, hj, rfl, HA2⟩ := hrel
         by_cases hjl : j < p.length
         ·obtain ⟨bp3, op3, hp3, _, hcp3⟩ := HRi.out wr HA2.out (by omega)
          cases hp3
          have cj := hcp3 j hjl
          obtain ⟨x, hx, hxE⟩ := HEi.out p[j] (List.getElem_mem hjl)
          rw [hx] at cj
          obtain ⟨os, hol, hO⟩ := HA2.out.st.oblk
          have hof := hO.free x
          have hoc := hO.cell (k := x) (by omega)
          have hj0 : (0 : Int) ≤ (j : Int) := by omega
          have hj1 : (j : Int) < (p.length : Int) := by omega
          have hx0 : (0 : Int) ≤ (x : Int) := by omega
          have hx1 : (x : Int) < (es.length : Int) := by omega
          clear hcp3 hx hO hol
          go_wp2
          go_roundw
          case rel => exact ⟨j + 1, hjl, by go_num, hide (HA2.out.own _ _)⟩
          case measure => simp [intOf]; omega
         ·obtain rfl : j = p.length := by omega
          go_wp2_with fail
          have hA := HA2.out
          have hrow := hA.st.fam.row (s + 4) (by omega)
          obtain ⟨ac, cc, hc4⟩ := hrow.shape
          have hlc := HL.out.2.2.2.1
          rw [hc4, hlc] at hrow
          rw [hlc] at hc4
          have hlt0 := hA.st.lt
          have hnn := (cell_of_row _ _ 0 _ _ _ hA.hn).trans rfl
          simp only [List.getElem?_toArray, List.getElem?_cons_zero] at hnn
          have hzz : wr.cell? ⟨Z, s, none⟩ = some (.slice ac i cc) := by
           rw [cell_of_row _ _ s _ _ _ hA.st.cblk, ← hc4]
           simp [hlt]
          have n0 : wr.drew.cell? ⟨N, 0, none⟩ = some (.int .i64 (s : Int)) := hnn
          have z0 : wr.drew.cell? ⟨Z, s, none⟩ = some (.slice ac i cc) := hzz
          have n1 : (wr.alloc (.cells #[.int .i64 (np' : Int)] 3)).cell? ⟨N, 0, none⟩ = some (.int .i64 (s : Int)) := (World.cell?_alloc_lt wr _ ⟨N, 0, none⟩ hA.nlt).trans hnn
          have z1 : (wr.alloc (.cells #[.int .i64 (np' : Int)] 3)).cell? ⟨Z, s, none⟩ = some (.slice ac i cc) := (World.cell?_alloc_lt wr _ ⟨Z, s, none⟩ (by show Z < _; omega)).trans hzz
          have hA1 := (hA.alloc (.cells #[.int .i64 (np' : Int)] 3)).drewN 1
          have HCh := hide (fun v' w3 (hI : Ints w3 (Z + 2) v' (X9 (s + 4) ++ [(np' : Int)])) (hg : (wr.alloc (.cells #[.int .i64 (np' : Int)] 3)).drew.grownBy w3 (Value.slice ac i cc).ownBlock) (hat : v'.ownBlock = (Value.slice ac i cc).ownBlock ∨ v'.ownBlock = some (wr.alloc (.cells #[.int .i64 (np' : Int)] 3)).drew.heap.size) => hA1.child (t := s) hlt (by rw [hc4]; exact hg) hI (by rw [hc4]; exact hat))
          have HNz := hide (fun w3 (hg : (wr.alloc (.cells #[.int .i64 (np' : Int)] 3)).drew.grownBy w3 (Value.slice ac i cc).ownBlock) => show w3.cell? ⟨N, 0, none⟩ = some (.int .i64 (s : Int)) ∧ w3.cell? ⟨Z, s, none⟩ = some (.slice ac i cc) ∧ w3.frozen? ⟨Z, s, none⟩ = false from by
           have hbz : w3.heap[Z]? = _ := (hg.block Z (by simp; omega) fun e => by rw [← hc4] at e; have := ((hA1.st.fam.row (s + 4) (by omega)).own_in e).1; omega).trans hA1.st.cblk
           refine ⟨(World.cell?_of_block (hg.block N (by have := hA1.nlt; exact this) fun e => (hA1.fx (s + 4) (by omega)).1 (by rw [hc4]; exact e.symm))).trans n1, ?_, by simp [World.frozen?, hbz]⟩
           rw [cell_of_row _ _ s _ _ _ hbz, ← hc4]
           simp [hlt])
          have hsn0 : (0 : Int) ≤ (s : Int) := by omega
          have hsn1 : (s : Int) < (vs.length : Int) := by omega
          have hi32 : (X9 (s + 4)).length + 1 ≤ 4294967296 := by have hK1 := HPK.out.2.1; rw [hlc]; omega
          have hzs : Z + 2 ≤ (wr.alloc (.cells #[.int .i64 (np' : Int)] 3)).drew.heap.size := hA1.st.lt
          have hr1 : Ints (wr.alloc (.cells #[.int .i64 (np' : Int)] 3)).drew (Z + 2) (.slice ac i cc) (X9 (s + 4)) := (hrow.alloc _).drew
          clear hA hA1 hrow hlt0 hlc
          have H24 := hide hr1
          clear hr1
          go_cut [] (fun wx => ∃ v' : Value, Hid (ApB w1 wx Z vs.length es.length N PB s (.slice ad lv.length cp) (upd F9 (s + 4) v') (upd X9 (s + 4) (X9 (s + 4) ++ [(np' : Int)]))))
          case first =>
           rename_i J0 K0 hJ0 hK0
           have hr1 := H24.out
           refine wp_region_noPanic ?_
           refine wp_region_held_drew (S := fun W' => W'.cell? ⟨N, 0, none⟩ = some (.int .i64 (s : Int))) (by kernel_rfl) n0 (fun hHeld => ?_)
           refine wpAnyH_take (i := 0) (oi := _) (v := ?_) rfl (by kernel_rfl) (by kernel_rfl) (by kernel_rfl) (fun _ _ _ h => h) (Or.inl ⟨by rfl, ?_⟩) (by assumption) ?_
           rotate_left
           ·(intro w hSw; (try dsimp only at hSw); go_simp; (try with_reducible rfl))
           (try simp only [List.getElem_toArray, List.getElem_cons_zero, Act.put, List.setIfInBounds_toArray, List.set_cons_zero, List.set_cons_succ])
           refine wpAnyH_take (i := 1) (oi := _) (v := ?_) rfl (by kernel_rfl) (by kernel_rfl) (by kernel_rfl) (fun _ _ _ h => h) (Or.inl ⟨by rfl, ?_⟩) (by assumption) ?_
           rotate_left
           ·(intro w hSw; (try dsimp only at hSw); go_simp; (try with_reducible rfl))
           (try simp only [List.getElem_toArray, List.getElem_cons_zero, List.getElem_cons_succ, Act.put, List.setIfInBounds_toArray, List.set_cons_zero, List.set_cons_succ])
           refine wpAnyH_take (i := 2) (oi := _) (v := ?_) rfl (by kernel_rfl) (by kernel_rfl) (by kernel_rfl) (fun _ _ _ h => h) (Or.inl ⟨by rfl, ?_⟩) (by assumption) ?_
           rotate_left
           ·(intro w hSw; (try dsimp only at hSw); go_simp; (try with_reducible rfl))
           (try simp only [List.getElem_toArray, List.getElem_cons_zero, List.getElem_cons_succ, Act.put, List.setIfInBounds_toArray, List.set_cons_zero, List.set_cons_succ])
           refine wpAnyH_take (i := 3) (oi := _) (v := ?_) rfl (by kernel_rfl) (by kernel_rfl) (by kernel_rfl) (fun _ _ _ h => h) (Or.inl ⟨by rfl, ?_⟩) (by assumption) ?_
           rotate_left
           ·(intro w hSw; (try dsimp only at hSw); go_simp; (try with_reducible rfl))
           (try simp only [List.getElem_toArray, List.getElem_cons_zero, List.getElem_cons_succ, Act.put, List.setIfInBounds_toArray, List.set_cons_zero, List.set_cons_succ])
           refine wpAnyH_take (i := 4) (oi := _) (v := ?_) rfl (by kernel_rfl) (by kernel_rfl) (by kernel_rfl) (fun _ _ _ h => h) (Or.inl ⟨by rfl, ?_⟩) (by assumption) ?_
           rotate_left
           ·(intro w hSw; (try dsimp only at hSw); go_simp; (try with_reducible rfl))
           (try simp only [List.getElem_toArray, List.getElem_cons_zero, List.getElem_cons_succ, Act.put, List.setIfInBounds_toArray, List.set_cons_zero, List.set_cons_succ])
           refine wpAnyH_take (i := 6) (oi := _) (v := ?_) rfl (by kernel_rfl) (by kernel_rfl) (by kernel_rfl) (fun _ _ _ h => h) (Or.inl ⟨by rfl, ?_⟩) (by assumption) ?_
           rotate_left
           ·(intro w hSw; (try dsimp only at hSw); go_simp; (try with_reducible rfl))
           (try simp only [List.getElem_toArray, List.getElem_cons_zero, List.getElem_cons_succ, Act.put, List.setIfInBounds_toArray, List.set_cons_zero, List.set_cons_succ])
           refine wpAnyH_take (i := 7) (oi := _) (v := ?_) rfl (by kernel_rfl) (by kernel_rfl) (by kernel_rfl) (fun _ _ _ h => h) (Or.inl ⟨by rfl, ?_⟩) (by assumption) ?_
           rotate_left
           ·(intro w hSw; (try dsimp only at hSw); go_simp; (try with_reducible rfl))
           (try simp only [List.getElem_toArray, List.getElem_cons_zero, List.getElem_cons_succ, Act.put, List.setIfInBounds_toArray, List.set_cons_zero, List.set_cons_succ])
           refine wpAnyH_ready (rs := [5, 8]) (by kernel_rfl) (by simp) ?_
           refine AllReadyH.cons (o := _) rfl (fun K hK => ?_) (AllReadyH.cons (o := _) rfl (fun K hK => ?_) AllReadyH.nil)
           ·go_simp
            refine hK.out _ _ ?_ (fun hHeld => ?_)
            ·exact hHeld
            clear hK K
            (try simp only [List.getElem_toArray, List.getElem_cons_zero, List.getElem_cons_succ, Act.put, List.setIfInBounds_toArray, List.set_cons_zero, List.set_cons_succ])
            refine wpAnyH_ready (rs := [8]) (by kernel_rfl) (by simp) ?_
            refine AllReadyH.cons (o := _) rfl (fun K hK => ?_) AllReadyH.nil
            go_simp
            refine hK.out _ _ ?_ (fun hHeld => ?_)
            ·exact n1
            clear hK K
            (try simp only [List.getElem_toArray, List.getElem_cons_zero, List.getElem_cons_succ, Act.put, List.setIfInBounds_toArray, List.set_cons_zero, List.set_cons_succ])
            refine wpAnyH_ready (rs := [9]) (by kernel_rfl) (by simp) ?_
            refine AllReadyH.cons (o := _) rfl (fun K hK => ?_) AllReadyH.nil
            refine step_app1 (by rfl) (.tmp 113) (.tmp 116) (by rfl) (Z + 2) (.slice ac i cc) (X9 (s + 4)) (by rfl) hr1 wr.heap.size (np' : Int) (by rfl) (heap_alloc_new wr _) hi32 hzs ?_
            intro v' w3 hI3 hg3 hat3
            obtain ⟨o', c', rfl⟩ := hI3.shape
            rw [show (X9 (s + 4) ++ [(np' : Int)]).length = (X9 (s + 4)).length + 1 from by simp] at hI3 hat3
            obtain ⟨n3, z3, zf⟩ := HNz.out w3 hg3
            refine hK.out _ _ ?_ (fun hHeld => ?_)
            ·exact n3
            clear hK K
            (try simp only [List.getElem_toArray, List.getElem_cons_zero, List.getElem_cons_succ, Act.put, List.setIfInBounds_toArray, List.set_cons_zero, List.set_cons_succ])
            refine wpAnyH_ready (rs := [10]) (by kernel_rfl) (by simp) ?_
            refine AllReadyH.cons (o := _) rfl (fun K hK => ?_) AllReadyH.nil
            go_simp
            refine hK.out _ _ ?_ (fun hHeld => ?_)
            ·exact n3
            clear hK K
            (try simp only [List.getElem_toArray, List.getElem_cons_zero, List.getElem_cons_succ, Act.put, List.setIfInBounds_toArray, List.set_cons_zero, List.set_cons_succ])
            refine wpAnyH_ready (rs := [11]) (by kernel_rfl) (by simp) ?_
            refine AllReadyH.cons (o := _) rfl (fun K hK => ?_) AllReadyH.nil
            go_simp
            refine hK.out _ _ ?_ (fun hHeld => ?_)
            ·(rw [World.cell?_of_block (Below.heap_setCell _ ⟨Z, s, none⟩ _ N (by show N ≠ Z; omega))]; exact n3)
            clear hK K
            (try simp only [List.getElem_toArray, List.getElem_cons_zero, List.getElem_cons_succ, Act.put, List.setIfInBounds_toArray, List.set_cons_zero, List.set_cons_succ])
            refine wpAnyH_done (by kernel_rfl) ?_ _
            go_wp2_with fail
            refine hK0 _ _ (Met.intro (hJ0 _ _ ?_))
            repeat apply Exists.intro
            refine ⟨⟨_, hide (HCh.out _ _ hI3 hg3 hat3)⟩, rfl⟩
           ·go_simp
            refine hK.out _ _ ?_ (fun hHeld => ?_)
            ·exact n1
            clear hK K
            (try simp only [List.getElem_toArray, List.getElem_cons_zero, List.getElem_cons_succ, Act.put, List.setIfInBounds_toArray, List.set_cons_zero, List.set_cons_succ])
            refine wpAnyH_ready (rs := [5]) (by kernel_rfl) (by simp) ?_
            refine AllReadyH.cons (o := _) rfl (fun K hK => ?_) AllReadyH.nil
            go_simp
            refine hK.out _ _ ?_ (fun hHeld => ?_)
            ·exact hHeld
            clear hK K
            (try simp only [List.getElem_toArray, List.getElem_cons_zero, List.getElem_cons_succ, Act.put, List.setIfInBounds_toArray, List.set_cons_zero, List.set_cons_succ])
            refine wpAnyH_ready (rs := [9]) (by kernel_rfl) (by simp) ?_
            refine AllReadyH.cons (o := _) rfl (fun K hK => ?_) AllReadyH.nil
            refine step_app1 (by rfl) (.tmp 113) (.tmp 116) (by rfl) (Z + 2) (.slice ac i cc) (X9 (s + 4)) (by rfl) hr1 wr.heap.size (np' : Int) (by rfl) (heap_alloc_new wr _) hi32 hzs ?_
            intro v' w3 hI3 hg3 hat3
            obtain ⟨o', c', rfl⟩ := hI3.shape
            rw [show (X9 (s + 4) ++ [(np' : Int)]).length = (X9 (s + 4)).length + 1 from by simp] at hI3 hat3
            obtain ⟨n3, z3, zf⟩ := HNz.out w3 hg3
            refine hK.out _ _ ?_ (fun hHeld => ?_)
            ·exact n3
            clear hK K
            (try simp only [List.getElem_toArray, List.getElem_cons_zero, List.getElem_cons_succ, Act.put, List.setIfInBounds_toArray, List.set_cons_zero, List.set_cons_succ])
            refine wpAnyH_ready (rs := [10]) (by kernel_rfl) (by simp) ?_
            refine AllReadyH.cons (o := _) rfl (fun K hK => ?_) AllReadyH.nil
            go_simp
            refine hK.out _ _ ?_ (fun hHeld => ?_)
            ·exact n3
            clear hK K
            (try simp only [List.getElem_toArray, List.getElem_cons_zero, List.getElem_cons_succ, Act.put, List.setIfInBounds_toArray, List.set_cons_zero, List.set_cons_succ])
            refine wpAnyH_ready (rs := [11]) (by kernel_rfl) (by simp) ?_
            refine AllReadyH.cons (o := _) rfl (fun K hK => ?_) AllReadyH.nil
            go_simp
            refine hK.out _ _ ?_ (fun hHeld => ?_)
            ·(rw [World.cell?_of_block (Below.heap_setCell _ ⟨Z, s, none⟩ _ N (by show N ≠ Z; omega))]; exact n3)
            clear hK K
            (try simp only [List.getElem_toArray, List.getElem_cons_zero, List.getElem_cons_succ, Act.put, List.setIfInBounds_toArray, List.set_cons_zero, List.set_cons_succ])
            refine wpAnyH_done (by kernel_rfl) ?_ _
            go_wp2_with fail
            refine hK0 _ _ (Met.intro (hJ0 _ _ ?_))
            repeat apply Exists.intro
            refine ⟨⟨_, hide (HCh.out _ _ hI3 hg3 hat3)⟩, rfl⟩
          case rest =>
           clear n0 z0 n1 z1 HCh HNz H24
           obtain ⟨v4, HA4⟩ := hcut
           have k0 : upd F9 (s + 4) v4 0 = .slice a0 np' c0 := by rw [upd_no _ _ (by omega)]; exact H0.out
           have k1 : upd F9 (s + 4) v4 1 = .slice a1 np' c1 := by rw [upd_no _ _ (by omega)]; exact H1.out
           have k2 : upd F9 (s + 4) v4 2 = F2 2 := by rw [upd_no _ _ (by omega)]; exact HF.out.1
           have k3 : upd F9 (s + 4) v4 3 = .slice ad lv.length cp := by rw [upd_no _ _ (by omega)]; exact HF.out.2.2.1
           have x0 : (upd X9 (s + 4) (X9 (s + 4) ++ [(np' : Int)]) 0).length = np' := by rw [upd_no _ _ (by omega)]; exact HL.out.1
           have x1 : (upd X9 (s + 4) (X9 (s + 4) ++ [(np' : Int)]) 1).length = np' := by rw [upd_no _ _ (by omega)]; exact HL.out.2.1
           have x2 : upd X9 (s + 4) (X9 (s + 4) ++ [(np' : Int)]) 2 = X2 2 := by rw [upd_no _ _ (by omega)]; exact HF.out.2.1
           have x3 : upd X9 (s + 4) (X9 (s + 4) ++ [(np' : Int)]) 3 = lv := by rw [upd_no _ _ (by omega)]; exact HF.out.2.2.2
           have x4 : (upd X9 (s + 4) (X9 (s + 4) ++ [(np' : Int)]) (s + 4)).length = i + 1 := by rw [upd_at]; simp [HL.out.2.2.2.1]
           have x5 : ∀ j, s < j → upd X9 (s + 4) (X9 (s + 4) ++ [(np' : Int)]) (j + 4) = [] := fun j hj => by rw [upd_no _ _ (by omega)]; exact HL.out.2.2.2.2.1 j hj
           have x6 : ∀ j, (upd X9 (s + 4) (X9 (s + 4) ++ [(np' : Int)]) (j + 4)).length ≤ 1024 := fun j => by
            by_cases e : j = s
            ·subst e; have := HPK.out.2.1; omega
            ·rw [upd_no _ _ (by omega)]; exact HL.out.2.2.2.2.2 j
           have hnp := HL.out.2.2.1
           have hK1 := HPK.out.2.1
           generalize upd F9 (s + 4) v4 = F4 at HA4 k0 k1 k2 k3
           generalize upd X9 (s + 4) (X9 (s + 4) ++ [(np' : Int)]) = X4 at HA4 x0 x1 x2 x3 x4 x5 x6
           have x7 : (X4 2).length = K := by rw [x2]; exact HF5.out.2.1
           obtain ⟨gp, cpp, hP, _⟩ := (HA4.out.st.fam.row 2 (by omega)).form (by omega)
           rw [x7] at hP
           have e5 := HF5.out.1.symm.trans (k2.symm.trans hP)
           have e6 := (Value.slice.inj e5).1
           simp only [Option.some.injEq, Addr.mk.injEq, and_true] at e6
           replace e6 := e6.symm
           subst e6
           clear e5
           obtain ⟨y, hy⟩ : ∃ y, (X4 2)[i]'(by omega) = y := ⟨_, rfl⟩
           have HTw := hide (fun W F' X' (h : ApB w1 W Z vs.length es.length N PB s (.slice ad lv.length cp) F' X') (e1 : F' 2 = F4 2) (e2 : X' 2 = X4 2) => h.two (e1.trans hP) (by rw [e2]; omega) (show (X' 2)[i]'(by rw [e2]; omega) = y by simp only [e2]; exact hy))
           have HK2 := hide k2
           have HK3 := hide k3
           have HXX := hide (And.intro x2 (And.intro x3 (And.intro x4 (And.intro x5 x6))))
           have hnb : np' + 1 ≤ 4294967296 := by omega
           have hHe := HTw.out wc F4 X4 HA4.out rfl rfl
           have hAd : ApB w1 wc.drew Z vs.length es.length N PB s (.slice ad lv.length cp) F4 X4 := HA4.out.drewN 1
           clear k2 k3 x2 x3 x4 x5 x6 hP hy H0 H1 hHe
           go_wp2_with fail
           have HRel := hide (fun (o0 : Option Addr) (c0' : Nat) (o1 : Option Addr) (c1' : Nat) (wx : World) (hA9 : ApB w1 wx Z vs.length es.length N PB s (.slice ad lv.length cp) (upd (upd F4 0 (.slice o0 (np' + 1) c0')) 1 (.slice o1 (np' + 1) c1')) (upd (upd X4 0 (X4 0 ++ [(s : Int)])) 1 (X4 1 ++ [y]))) =>
            show ∃ (i' np'' : Nat) (F : Nat → Value) (X : Nat → List Int), i' ≤ K ∧ Value.int .i64 ((i : Int) + 1) = .int .i64 i' ∧ Value.slice o0 (np' + 1) c0' = F 0 ∧ Value.slice o1 (np' + 1) c1' = F 1 ∧ Hid (ApB w1 wx Z vs.length es.length N PB s (.slice ad lv.length cp) F X) ∧
             Hid (F 2 = F2 2 ∧ X 2 = X2 2 ∧ F 3 = .slice ad lv.length cp ∧ X 3 = lv) ∧
             Hid ((X 0).length = np'' ∧ (X 1).length = np'' ∧ np'' ≤ s * 1024 + i' ∧ (X (s + 4)).length = i' ∧ (∀ j, s < j → X (j + 4) = []) ∧ ∀ j, (X (j + 4)).length ≤ 1024) from
            ⟨i + 1, np' + 1, _, _, by omega, by go_num, rfl, rfl, hide hA9, hide ⟨HK2.out, HXX.out.1, HK3.out, HXX.out.2.1⟩, hide ⟨by show (X4 0 ++ [(s : Int)]).length = _; simp [x0], by show (X4 1 ++ [y]).length = _; simp [x1], by omega, HXX.out.2.2.1, HXX.out.2.2.2.1, HXX.out.2.2.2.2⟩⟩)
           refine wp_region_noPanic ?_
           refine wp_region_held_drew (S := fun W' => W'.cell? ⟨N, 0, none⟩ = some (.int .i64 (s : Int)) ∧ W'.cell? ⟨gp, i, none⟩ = some (.int .i64 y)) (by kernel_rfl) (HTw.out _ _ _ hAd rfl rfl) (fun hHeld => ?_)
           refine wpAnyH_take (i := 0) (oi := _) (v := ?_) rfl (by kernel_rfl) (by kernel_rfl) (by kernel_rfl) (fun _ _ _ h => h) (Or.inl ⟨by rfl, ?_⟩) (by assumption) ?_
           rotate_left
           ·(intro w hSw; (try dsimp only at hSw); go_simp; (try with_reducible rfl))
           (try simp only [List.getElem_toArray, List.getElem_cons_zero, Act.put, List.setIfInBounds_toArray, List.set_cons_zero, List.set_cons_succ])
           refine wpAnyH_take (i := 1) (oi := _) (v := ?_) rfl (by kernel_rfl) (by kernel_rfl) (by kernel_rfl) (fun _ _ _ h => h) (Or.inl ⟨by rfl, ?_⟩) (by assumption) ?_
           rotate_left
           ·(intro w hSw; (try dsimp only at hSw); go_simp; (try with_reducible rfl))
           (try simp only [List.getElem_toArray, List.getElem_cons_zero, List.getElem_cons_succ, Act.put, List.setIfInBounds_toArray, List.set_cons_zero, List.set_cons_succ])
           refine wpAnyH_take (i := 4) (oi := _) (v := ?_) rfl (by kernel_rfl) (by kernel_rfl) (by kernel_rfl) (fun _ _ _ h => h) (Or.inl ⟨by rfl, ?_⟩) (by assumption) ?_
           rotate_left
           ·(intro w hSw; (try dsimp only at hSw); go_simp; (try with_reducible rfl))
           (try simp only [List.getElem_toArray, List.getElem_cons_zero, List.getElem_cons_succ, Act.put, List.setIfInBounds_toArray, List.set_cons_zero, List.set_cons_succ])
           refine wpAnyH_take (i := 5) (oi := _) (v := ?_) rfl (by kernel_rfl) (by kernel_rfl) (by kernel_rfl) (fun _ _ _ h => h) (Or.inl ⟨by rfl, ?_⟩) (by assumption) ?_
           rotate_left
           ·(intro w hSw; (try dsimp only at hSw); go_simp; (try with_reducible rfl))
           (try simp only [List.getElem_toArray, List.getElem_cons_zero, List.getElem_cons_succ, Act.put, List.setIfInBounds_toArray, List.set_cons_zero, List.set_cons_succ])
           refine wpAnyH_take (i := 6) (oi := _) (v := ?_) rfl (by kernel_rfl) (by kernel_rfl) (by kernel_rfl) (fun _ _ _ h => h) (Or.inl ⟨by rfl, ?_⟩) (by assumption) ?_
           rotate_left
           ·(intro w hSw; (try dsimp only at hSw); go_simp; (try with_reducible rfl))
           (try simp only [List.getElem_toArray, List.getElem_cons_zero, List.getElem_cons_succ, Act.put, List.setIfInBounds_toArray, List.set_cons_zero, List.set_cons_succ])
           refine wpAnyH_take (i := 7) (oi := _) (v := ?_) rfl (by kernel_rfl) (by kernel_rfl) (by kernel_rfl) (fun _ _ _ h => h) (Or.inl ⟨by rfl, ?_⟩) (by assumption) ?_
           rotate_left
           ·(intro w hSw; (try dsimp only at hSw); go_simp; (try with_reducible rfl))
           (try simp only [List.getElem_toArray, List.getElem_cons_zero, List.getElem_cons_succ, Act.put, List.setIfInBounds_toArray, List.set_cons_zero, List.set_cons_succ])
           refine wpAnyH_take (i := 8) (oi := _) (v := ?_) rfl (by kernel_rfl) (by kernel_rfl) (by kernel_rfl) (fun _ _ _ h => h) (Or.inl ⟨by rfl, ?_⟩) (by assumption) ?_
           rotate_left
           ·(intro w hSw; (try dsimp only at hSw); go_simp; (try with_reducible rfl))
           (try simp only [List.getElem_toArray, List.getElem_cons_zero, List.getElem_cons_succ, Act.put, List.setIfInBounds_toArray, List.set_cons_zero, List.set_cons_succ])
           refine wpAnyH_ready (rs := [2, 9]) (by kernel_rfl) (by simp) ?_
           refine AllReadyH.cons (o := _) rfl (fun K hK => ?_) (AllReadyH.cons (o := _) rfl (fun K hK => ?_) AllReadyH.nil)
           ·go_simp
            have hA1 := hAd.alloc (.cells #[.int .i64 (s : Int)] 3)
            refine hK.out _ _ ?_ (fun hHeld => ?_)
            ·exact HTw.out _ _ _ hA1 rfl rfl
            clear hK K
            (try simp only [List.getElem_toArray, List.getElem_cons_zero, List.getElem_cons_succ, Act.put, List.setIfInBounds_toArray, List.set_cons_zero, List.set_cons_succ])
            refine wpAnyH_ready (rs := [3, 9]) (by kernel_rfl) (by simp) ?_
            refine AllReadyH.cons (o := _) rfl (fun K hK => ?_) (AllReadyH.cons (o := _) rfl (fun K hK => ?_) AllReadyH.nil)
            ·refine step_apB (by rfl) (.tmp 119) (.tmp 121) (by rfl) hA1 0 (by decide) ((by show Value.slice a0 np' c0 = F4 0; rw [k0])) wc.drew.heap.size (s : Int) (by rfl) (heap_alloc_new wc.drew _) np' x0 hnb ?_
             intro o0 c0' w5 hA2 hg0
             refine hK.out _ _ ?_ (fun hHeld => ?_)
             ·exact HTw.out _ _ _ hA2 rfl rfl
             clear hK K
             (try simp only [List.getElem_toArray, List.getElem_cons_zero, List.getElem_cons_succ, Act.put, List.setIfInBounds_toArray, List.set_cons_zero, List.set_cons_succ])
             refine wpAnyH_ready (rs := [9]) (by kernel_rfl) (by simp) ?_
             refine AllReadyH.cons (o := _) rfl (fun K hK => ?_) AllReadyH.nil
             go_simp
             have hA3 := hA2.alloc (.cells #[.int .i64 y] 3)
             refine hK.out _ _ ?_ (fun hHeld => ?_)
             ·exact HTw.out _ _ _ hA3 rfl rfl
             clear hK K
             (try simp only [List.getElem_toArray, List.getElem_cons_zero, List.getElem_cons_succ, Act.put, List.setIfInBounds_toArray, List.set_cons_zero, List.set_cons_succ])
             refine wpAnyH_ready (rs := [10]) (by kernel_rfl) (by simp) ?_
             refine AllReadyH.cons (o := _) rfl (fun K hK => ?_) AllReadyH.nil
             refine step_apB (by rfl) (.tmp 123) (.tmp 128) (by rfl) hA3 1 (by decide) ((by show Value.slice a1 np' c1 = F4 1; rw [k1])) w5.heap.size y (by rfl) (heap_alloc_new w5 _) np' x1 hnb ?_
             intro o1 c1' w6 hA9 hg1
             refine hK.out _ _ ?_ (fun hHeld => ?_)
             ·exact HTw.out _ _ _ hA9 rfl rfl
             clear hK K
             (try simp only [List.getElem_toArray, List.getElem_cons_zero, List.getElem_cons_succ, Act.put, List.setIfInBounds_toArray, List.set_cons_zero, List.set_cons_succ])
             refine wpAnyH_take (i := 11) (oi := _) (v := ?_) rfl (by kernel_rfl) (by kernel_rfl) (by kernel_rfl) (fun _ _ _ h => h) (Or.inl ⟨by rfl, ?_⟩) (by assumption) ?_
             rotate_left
             ·(intro w hSw; (try dsimp only at hSw); go_simp; (try with_reducible rfl))
             (try simp only [List.getElem_toArray, List.getElem_cons_zero, List.getElem_cons_succ, Act.put, List.setIfInBounds_toArray, List.set_cons_zero, List.set_cons_succ])
             refine wpAnyH_take (i := 12) (oi := _) (v := ?_) rfl (by kernel_rfl) (by kernel_rfl) (by kernel_rfl) (fun _ _ _ h => h) (Or.inl ⟨by rfl, ?_⟩) (by assumption) ?_
             rotate_left
             ·(intro w hSw; (try dsimp only at hSw); go_simp; (try with_reducible rfl))
             (try simp only [List.getElem_toArray, List.getElem_cons_zero, List.getElem_cons_succ, Act.put, List.setIfInBounds_toArray, List.set_cons_zero, List.set_cons_succ])
             refine wpAnyH_done (by kernel_rfl) ?_ _
             refine NoPanic.normal ?_
             have HR9 := hide (HRel.out _ _ _ _ _ hA9)
             clear HTw hAd HA4 k0 k1 HRel
             go_wp2
             go_roundw
             case rel => exact HR9.out
             case measure => simp [intOf]; omega
            ·go_simp
             have hA2 := hA1.alloc (.cells #[.int .i64 y] 3)
             refine hK.out _ _ ?_ (fun hHeld => ?_)
             ·exact HTw.out _ _ _ hA2 rfl rfl
             clear hK K
             (try simp only [List.getElem_toArray, List.getElem_cons_zero, List.getElem_cons_succ, Act.put, List.setIfInBounds_toArray, List.set_cons_zero, List.set_cons_succ])
             refine wpAnyH_ready (rs := [3]) (by kernel_rfl) (by simp) ?_
             refine AllReadyH.cons (o := _) rfl (fun K hK => ?_) AllReadyH.nil
             refine step_apB (by rfl) (.tmp 119) (.tmp 121) (by rfl) hA2 0 (by decide) ((by show Value.slice a0 np' c0 = F4 0; rw [k0])) wc.drew.heap.size (s : Int) (by rfl) ((heap_alloc_old _ _ (by simp)).trans (heap_alloc_new wc.drew _)) np' x0 hnb ?_
             intro o0 c0' w5 hA3 hg0
             refine hK.out _ _ ?_ (fun hHeld => ?_)
             ·exact HTw.out _ _ _ hA3 rfl rfl
             clear hK K
             (try simp only [List.getElem_toArray, List.getElem_cons_zero, List.getElem_cons_succ, Act.put, List.setIfInBounds_toArray, List.set_cons_zero, List.set_cons_succ])
             refine wpAnyH_ready (rs := [10]) (by kernel_rfl) (by simp) ?_
             refine AllReadyH.cons (o := _) rfl (fun K hK => ?_) AllReadyH.nil
             refine step_apB (by rfl) (.tmp 123) (.tmp 128) (by rfl) hA3 1 (by decide) ((by show Value.slice a1 np' c1 = F4 1; rw [k1])) (wc.drew.heap.size + 1) y (by rfl) ((hg0.block _ (by simp) (hA1.own_lt (i := 0) (by decide) (by simp))).trans (by have := heap_alloc_new (wc.drew.alloc (.cells #[.int .i64 (s : Int)] 3)) (.cells #[.int .i64 y] 3); rwa [World.size_alloc] at this)) np' x1 hnb ?_
             intro o1 c1' w6 hA9 hg1
             refine hK.out _ _ ?_ (fun hHeld => ?_)
             ·exact HTw.out _ _ _ hA9 rfl rfl
             clear hK K
             (try simp only [List.getElem_toArray, List.getElem_cons_zero, List.getElem_cons_succ, Act.put, List.setIfInBounds_toArray, List.set_cons_zero, List.set_cons_succ])
             refine wpAnyH_take (i := 11) (oi := _) (v := ?_) rfl (by kernel_rfl) (by kernel_rfl) (by kernel_rfl) (fun _ _ _ h => h) (Or.inl ⟨by rfl, ?_⟩) (by assumption) ?_
             rotate_left
             ·(intro w hSw; (try dsimp only at hSw); go_simp; (try with_reducible rfl))
             (try simp only [List.getElem_toArray, List.getElem_cons_zero, List.getElem_cons_succ, Act.put, List.setIfInBounds_toArray, List.set_cons_zero, List.set_cons_succ])
             refine wpAnyH_take (i := 12) (oi := _) (v := ?_) rfl (by kernel_rfl) (by kernel_rfl) (by kernel_rfl) (fun _ _ _ h => h) (Or.inl ⟨by rfl, ?_⟩) (by assumption) ?_
             rotate_left
             ·(intro w hSw; (try dsimp only at hSw); go_simp; (try with_reducible rfl))
             (try simp only [List.getElem_toArray, List.getElem_cons_zero, List.getElem_cons_succ, Act.put, List.setIfInBounds_toArray, List.set_cons_zero, List.set_cons_succ])
             refine wpAnyH_done (by kernel_rfl) ?_ _
             refine NoPanic.normal ?_
             have HR9 := hide (HRel.out _ _ _ _ _ hA9)
             clear HTw hAd HA4 k0 k1 HRel
             go_wp2
             go_roundw
             case rel => exact HR9.out
             case measure => simp [intOf]; omega
           ·go_simp
            have hA1 := hAd.alloc (.cells #[.int .i64 y] 3)
            refine hK.out _ _ ?_ (fun hHeld => ?_)
            ·exact HTw.out _ _ _ hA1 rfl rfl
            clear hK K
            (try simp only [List.getElem_toArray, List.getElem_cons_zero, List.getElem_cons_succ, Act.put, List.setIfInBounds_toArray, List.set_cons_zero, List.set_cons_succ])
            refine wpAnyH_ready (rs := [2]) (by kernel_rfl) (by simp) ?_
            refine AllReadyH.cons (o := _) rfl (fun K hK => ?_) AllReadyH.nil
            go_simp
            have hA2 := hA1.alloc (.cells #[.int .i64 (s : Int)] 3)
            refine hK.out _ _ ?_ (fun hHeld => ?_)
            ·exact HTw.out _ _ _ hA2 rfl rfl
            clear hK K
            (try simp only [List.getElem_toArray, List.getElem_cons_zero, List.getElem_cons_succ, Act.put, List.setIfInBounds_toArray, List.set_cons_zero, List.set_cons_succ])
            refine wpAnyH_ready (rs := [3]) (by kernel_rfl) (by simp) ?_
            refine AllReadyH.cons (o := _) rfl (fun K hK => ?_) AllReadyH.nil
            refine step_apB (by rfl) (.tmp 119) (.tmp 121) (by rfl) hA2 0 (by decide) ((by show Value.slice a0 np' c0 = F4 0; rw [k0])) (wc.drew.heap.size + 1) (s : Int) (by rfl) ((by have := heap_alloc_new (wc.drew.alloc (.cells #[.int .i64 y] 3)) (.cells #[.int .i64 (s : Int)] 3); rwa [World.size_alloc] at this)) np' x0 hnb ?_
            intro o0 c0' w5 hA3 hg0
            refine hK.out _ _ ?_ (fun hHeld => ?_)
            ·exact HTw.out _ _ _ hA3 rfl rfl
            clear hK K
            (try simp only [List.getElem_toArray, List.getElem_cons_zero, List.getElem_cons_succ, Act.put, List.setIfInBounds_toArray, List.set_cons_zero, List.set_cons_succ])
            refine wpAnyH_ready (rs := [10]) (by kernel_rfl) (by simp) ?_
            refine AllReadyH.cons (o := _) rfl (fun K hK => ?_) AllReadyH.nil
            refine step_apB (by rfl) (.tmp 123) (.tmp 128) (by rfl) hA3 1 (by decide) ((by show Value.slice a1 np' c1 = F4 1; rw [k1])) wc.drew.heap.size y (by rfl) ((hg0.block _ (by simp; omega) (hAd.own_lt (i := 0) (by decide) (Nat.le_refl _))).trans ((heap_alloc_old _ _ (by simp)).trans (heap_alloc_new wc.drew _))) np' x1 hnb ?_
            intro o1 c1' w6 hA9 hg1
            refine hK.out _ _ ?_ (fun hHeld => ?_)
            ·exact HTw.out _ _ _ hA9 rfl rfl
            clear hK K
            (try simp only [List.getElem_toArray, List.getElem_cons_zero, List.getElem_cons_succ, Act.put, List.setIfInBounds_toArray, List.set_cons_zero, List.set_cons_succ])
            refine wpAnyH_take (i := 11) (oi := _) (v := ?_) rfl (by kernel_rfl) (by kernel_rfl) (by kernel_rfl) (fun _ _ _ h => h) (Or.inl ⟨by rfl, ?_⟩) (by assumption) ?_
            rotate_left
            ·(intro w hSw; (try dsimp only at hSw); go_simp; (try with_reducible rfl))
            (try simp only [List.getElem_toArray, List.getElem_cons_zero, List.getElem_cons_succ, Act.put, List.setIfInBounds_toArray, List.set_cons_zero, List.set_cons_succ])
            refine wpAnyH_take (i := 12) (oi := _) (v := ?_) rfl (by kernel_rfl) (by kernel_rfl) (by kernel_rfl) (fun _ _ _ h => h) (Or.inl ⟨by rfl, ?_⟩) (by assumption) ?_
            rotate_left
            ·(intro w hSw; (try dsimp only at hSw); go_simp; (try with_reducible rfl))
            (try simp only [List.getElem_toArray, List.getElem_cons_zero, List.getElem_cons_succ, Act.put, List.setIfInBounds_toArray, List.set_cons_zero, List.set_cons_succ])
            refine wpAnyH_done (by kernel_rfl) ?_ _
            refine NoPanic.normal ?_
            have HR9 := hide (HRel.out _ _ _ _ _ hA9)
            clear HTw hAd HA4 k0 k1 HRel
            go_wp2
            go_roundw
            case rel => exact HR9.out
            case measure => simp [intOf]; omega
       ·obtain rfl : i = K := by omega
        have HS9 := hide HA.out.st
        have HB9 := hide HA.out.bel
        have HL9 := hide (show (X9 0).length = np' ∧ (X9 1).length = np' ∧ np' ≤ (s + 1) * 1024 ∧ (∀ j, s + 1 ≤ j → X9 (j + 4) = []) ∧ ∀ j, (X9 (j + 4)).length ≤ 1024 from ⟨HL.out.1, HL.out.2.1, by have := HL.out.2.2.1; have := HPK.out.2.1; omega, fun j hj => HL.out.2.2.2.2.1 j (by omega), HL.out.2.2.2.2.2⟩)
        go_wp2
        go_roundw
        case rel => exact ⟨s + 1, np', F9, X9, hlt, by go_num, rfl, rfl, HS9, HL9, HB9⟩
        case measure => simp [intOf]; omega
   ·obtain rfl : s = vs.length := by omega
    obtain ⟨gq, gb, gr⟩ := HG1.out wr HB.out
    obtain ⟨s0, s1, s2, _⟩ := at3 gb
    go_wp2_with fail
    clear s0 s1 s2 gq gb gr
    go_loopw [27, 135] (fun lv iv wr => ∃ (i : Nat) (l : List Edg), i ≤ es.length ∧ iv = .int .i64 i ∧ Hid (ApS wr Z vs.length es.length F X) ∧ Hid (Eds wr (Z + 2) lv l) ∧ Hid (l.length ≤ i * 1024) ∧ Hid (Below Z w1 wr)) (fun _ iv _ => es.length - (intOf iv).toNat)
    case atStart => exact ⟨0, [], Nat.zero_le _, rfl, HA, hide (Eds.nil_ _ _), hide (Nat.zero_le _), HB⟩
    case round =>
     obtain ⟨i, l, hi, rfl, HA2, HE2, HN2, HB2⟩ := hrel
     by_cases hlt : i < es.length
     ·obtain ⟨gq, gb, gr⟩ := HG1.out wr HB2.out
      obtain ⟨be, oe, hAe, _, hce⟩ := HRe.out wr gq (by omega)
      subst hAe
      obtain ⟨c0, c1, c2⟩ := hce i hlt
      have hin := HIn.out es[i] (List.getElem_mem hlt)
      obtain ⟨e, he⟩ : ∃ e, es[i] = e := ⟨_, rfl⟩
      rw [he] at c0 c1 c2 hin
      obtain ⟨t, ht⟩ : ∃ t : Nat, e.t = (t : Int) := ⟨e.t.toNat, by have := hin.2.2.1; omega⟩
      have htn : t < vs.length := by have := hin.2.2.2; omega
      rw [ht] at c2
      obtain ⟨N, hN⟩ : ∃ N, wr.heap.size = N := ⟨_, rfl⟩
      have hn1 := heap_alloc_new wr (.cells #[.int .i64 e.f, .int .i64 e.l, .int .i64 (t : Int)] 72)
      obtain ⟨x0, x1, x2, _⟩ := at3 hn1
      have hA1 := HA2.out.alloc (.cells #[.int .i64 e.f, .int .i64 e.l, .int .i64 (t : Int)] 72)
      obtain ⟨at', ct, h4⟩ := (HA2.out.fam.row (t + 4) (by omega)).shape
      have hM := HL.out.2.2.2.2 t
      obtain ⟨M, hMM⟩ : ∃ M, (X (t + 4)).length = M := ⟨_, rfl⟩
      rw [hMM] at h4 hM
      have z1 : (wr.alloc (.cells #[.int .i64 e.f, .int .i64 e.l, .int .i64 (t : Int)] 72)).cell? ⟨Z, t, none⟩ = some (.slice at' M ct) := by
       rw [cell_of_row _ _ t _ _ _ hA1.cblk, ← h4]
       simp [htn]
      have HA3 := hide hA1
      have HE3 := hide (HE2.out.alloc (.cells #[.int .i64 e.f, .int .i64 e.l, .int .i64 (t : Int)] 72))
      have HB3 := hide (HB2.out.alloc (by have := HA2.out.lt; omega : Z ≤ wr.heap.size) (.cells #[.int .i64 e.f, .int .i64 e.l, .int .i64 (t : Int)] 72))
      have HN3 := hide (hN ▸ hn1)
      have hO := World.ownsRow.lt HE2.out
      have HO3 := hide (fun k h => show k ≠ N from by have := (hO k h).2; omega)
      have hzN : Z + 2 ≤ N := by have := HA2.out.lt; omega
      have H4 := hide h4
      have HMM := hide hMM
      have hi0 : (0 : Int) ≤ (i : Int) := by omega
      have hi1 : (i : Int) < (es.length : Int) := by omega
      have ht0 : (0 : Int) ≤ (t : Int) := by omega
      have ht1 : (t : Int) < (vs.length : Int) := by omega
      clear hO hce he hin ht hn1 hA1 h4 hMM gq gb gr
      go_wp2_with fail
      go_loopw [27, 146] (fun lv jv wx => ∃ (j : Nat) (l' : List Edg), j ≤ M ∧ jv = .int .i64 j ∧ Hid (ApS wx Z vs.length es.length F X) ∧ Hid (Eds wx (Z + 2) lv l') ∧ Hid (l'.length ≤ i * 1024 + j) ∧ Hid (Below Z w1 wx) ∧ Hid (wx.heap[N]? = some (.cells #[.int .i64 e.f, .int .i64 e.l, .int .i64 (t : Int)] 72 (0, 0))) ∧ Hid (∀ k, lv.ownBlock = some k → k ≠ N)) (fun _ jv _ => M - (intOf jv).toNat)
      case atStart => exact ⟨0, l, Nat.zero_le _, rfl, HA3, HE3, HN2, HB3, HN3, HO3⟩
      case round =>
       obtain ⟨j, l', hj, rfl, HA5, HE5, HN5, HB5, HX5, HO5⟩ := hrel
       by_cases hjl : j < M
       ·have hrow := HA5.out.fam.row (t + 4) (by omega)
        rw [H4.out] at hrow
        obtain ⟨b4, o4, h4', _, hc4⟩ := hrow.rowA.2 (by rw [HMM.out]; omega)
        subst h4'
        have cj := hc4 j (by rw [HMM.out]; exact hjl)
        obtain ⟨y, hy⟩ : ∃ y, (X (t + 4))[j]'(by rw [HMM.out]; exact hjl) = y := ⟨_, rfl⟩
        rw [hy] at cj
        obtain ⟨os, hol, hO⟩ := HA5.out.oblk
        have ho := hO.cell (k := i) (by omega)
        obtain ⟨ow, how⟩ : ∃ ow, os.getD i 0 = ow := ⟨_, rfl⟩
        rw [how] at ho
        obtain ⟨_, p1, _, _⟩ := at3 HX5.out
        have hlx := HA5.out.lt
        have hNl : N < wr.heap.size := (Array.getElem?_eq_some_iff.1 HX5.out).1
        have q1 : (wr.alloc (.cells #[.int .i64 ow, .int .i64 e.l, .int .i64 y] 72)).cell? ⟨N, 1, none⟩ = some (.int .i64 e.l) := (World.cell?_alloc_lt wr _ ⟨N, 1, none⟩ hNl).trans p1
        have q2 : (wr.alloc (.cells #[.int .i64 ow, .int .i64 e.l, .int .i64 y] 72)).cell? ⟨Z + 1, i, none⟩ = some (.int .i64 ow) := (World.cell?_alloc_lt wr _ ⟨Z + 1, i, none⟩ (by show Z + 1 < _; omega)).trans ho
        have m0 : wr.drew.cell? ⟨N, 1, none⟩ = some (.int .i64 e.l) ∧ wr.drew.cell? ⟨Z + 1, i, none⟩ = some (.int .i64 ow) := ⟨p1, ho⟩
        have m1 : (wr.alloc (.cells #[.int .i64 ow, .int .i64 e.l, .int .i64 y] 72)).drew.cell? ⟨N, 1, none⟩ = some (.int .i64 e.l) ∧ (wr.alloc (.cells #[.int .i64 ow, .int .i64 e.l, .int .i64 y] 72)).drew.cell? ⟨Z + 1, i, none⟩ = some (.int .i64 ow) := ⟨q1, q2⟩
        have hE1 := (HE5.out.alloc (.cells #[.int .i64 ow, .int .i64 e.l, .int .i64 y] 72))
        have hA1 := (HA5.out.alloc (.cells #[.int .i64 ow, .int .i64 e.l, .int .i64 y] 72))
        have hX1 := (heap_alloc_old wr (.cells #[.int .i64 ow, .int .i64 e.l, .int .i64 y] 72) hNl).trans HX5.out
        have hl32 : l'.length + 1 ≤ 4294967296 := by have := HN5.out; omega
        have hj0 : (0 : Int) ≤ (j : Int) := by omega
        have hj1 : (j : Int) < (M : Int) := by omega
        have hzs : Z + 2 ≤ (wr.alloc (.cells #[.int .i64 ow, .int .i64 e.l, .int .i64 y] 72)).drew.heap.size := hA1.lt
        have HBa := hide (HB5.out.alloc (by omega : Z ≤ wr.heap.size) (.cells #[.int .i64 ow, .int .i64 e.l, .int .i64 y] 72))
        clear hrow hc4 hy hO hol how
        go_wp2_with fail
        refine wp_region_noPanic ?_
        refine wp_region_held_drew (S := fun W' => W'.cell? ⟨N, 1, none⟩ = some (.int .i64 e.l) ∧ W'.cell? ⟨Z + 1, i, none⟩ = some (.int .i64 ow)) (by kernel_rfl) m0 (fun hHeld => ?_)
        refine wpAnyH_take (i := 0) (oi := _) (v := ?_) rfl (by kernel_rfl) (by kernel_rfl) (by kernel_rfl) (fun _ _ _ h => h) (Or.inl ⟨by rfl, ?_⟩) (by assumption) ?_
        rotate_left
        ·(intro w hSw; (try dsimp only at hSw); go_simp; (try with_reducible rfl))
        (try simp only [List.getElem_toArray, List.getElem_cons_zero, Act.put, List.setIfInBounds_toArray, List.set_cons_zero, List.set_cons_succ])
        refine wpAnyH_take (i := 1) (oi := _) (v := ?_) rfl (by kernel_rfl) (by kernel_rfl) (by kernel_rfl) (fun _ _ _ h => h) (Or.inl ⟨by rfl, ?_⟩) (by assumption) ?_
        rotate_left
        ·(intro w hSw; (try dsimp only at hSw); go_simp; (try with_reducible rfl))
        (try simp only [List.getElem_toArray, List.getElem_cons_zero, List.getElem_cons_succ, Act.put, List.setIfInBounds_toArray, List.set_cons_zero, List.set_cons_succ])
        refine wpAnyH_take (i := 2) (oi := _) (v := ?_) rfl (by kernel_rfl) (by kernel_rfl) (by kernel_rfl) (fun _ _ _ h => h) (Or.inl ⟨by rfl, ?_⟩) (by assumption) ?_
        rotate_left
        ·(intro w hSw; (try dsimp only at hSw); go_simp; (try with_reducible rfl))
        (try simp only [List.getElem_toArray, List.getElem_cons_zero, List.getElem_cons_succ, Act.put, List.setIfInBounds_toArray, List.set_cons_zero, List.set_cons_succ])
        refine wpAnyH_take (i := 3) (oi := _) (v := ?_) rfl (by kernel_rfl) (by kernel_rfl) (by kernel_rfl) (fun _ _ _ h => h) (Or.inl ⟨by rfl, ?_⟩) (by assumption) ?_
        rotate_left
        ·(intro w hSw; (try dsimp only at hSw); go_simp; (try with_reducible rfl))
        (try simp only [List.getElem_toArray, List.getElem_cons_zero, List.getElem_cons_succ, Act.put, List.setIfInBounds_toArray, List.set_cons_zero, List.set_cons_succ])
        refine wpAnyH_take (i := 4) (oi := _) (v := ?_) rfl (by kernel_rfl) (by kernel_rfl) (by kernel_rfl) (fun _ _ _ h => h) (Or.inl ⟨by rfl, ?_⟩) (by assumption) ?_
        rotate_left
        ·(intro w hSw; (try dsimp only at hSw); go_simp; (try with_reducible rfl))
        (try simp only [List.getElem_toArray, List.getElem_cons_zero, List.getElem_cons_succ, Act.put, List.setIfInBounds_toArray, List.set_cons_zero, List.set_cons_succ])
        refine wpAnyH_take (i := 5) (oi := _) (v := ?_) rfl (by kernel_rfl) (by kernel_rfl) (by kernel_rfl) (fun _ _ _ h => h) (Or.inl ⟨by rfl, ?_⟩) (by assumption) ?_
        rotate_left
        ·(intro w hSw; (try dsimp only at hSw); go_simp; (try with_reducible rfl))
        (try simp only [List.getElem_toArray, List.getElem_cons_zero, List.getElem_cons_succ, Act.put, List.setIfInBounds_toArray, List.set_cons_zero, List.set_cons_succ])
        refine wpAnyH_take (i := 6) (oi := _) (v := ?_) rfl (by kernel_rfl) (by kernel_rfl) (by kernel_rfl) (fun _ _ _ h => h) (Or.inl ⟨by rfl, ?_⟩) (by assumption) ?_
        rotate_left
        ·(intro w hSw; (try dsimp only at hSw); go_simp; (try with_reducible rfl))
        (try simp only [List.getElem_toArray, List.getElem_cons_zero, List.getElem_cons_succ, Act.put, List.setIfInBounds_toArray, List.set_cons_zero, List.set_cons_succ])
        refine wpAnyH_take (i := 7) (oi := _) (v := ?_) rfl (by kernel_rfl) (by kernel_rfl) (by kernel_rfl) (fun _ _ _ h => h) (Or.inl ⟨by rfl, ?_⟩) (by assumption) ?_
        rotate_left
        ·(intro w hSw; (try dsimp only at hSw); go_simp; (try with_reducible rfl))
        (try simp only [List.getElem_toArray, List.getElem_cons_zero, List.getElem_cons_succ, Act.put, List.setIfInBounds_toArray, List.set_cons_zero, List.set_cons_succ])
        refine wpAnyH_take (i := 8) (oi := _) (v := ?_) rfl (by kernel_rfl) (by kernel_rfl) (by kernel_rfl) (fun _ _ _ h => h) (Or.inl ⟨by rfl, ?_⟩) (by assumption) ?_
        rotate_left
        ·(intro w hSw; (try dsimp only at hSw); go_simp; (try with_reducible rfl))
        (try simp only [List.getElem_toArray, List.getElem_cons_zero, List.getElem_cons_succ, Act.put, List.setIfInBounds_toArray, List.set_cons_zero, List.set_cons_succ])
        refine wpAnyH_ready (rs := [9]) (by kernel_rfl) (by simp) ?_
        refine AllReadyH.cons (o := _) rfl (fun K hK => ?_) AllReadyH.nil
        go_simp
        refine hK.out _ _ ?_ (fun hHeld => ?_)
        ·exact m1
        clear hK K
        (try simp only [List.getElem_toArray, List.getElem_cons_zero, List.getElem_cons_succ, Act.put, List.setIfInBounds_toArray, List.set_cons_zero, List.set_cons_succ])
        refine wpAnyH_ready (rs := [10]) (by kernel_rfl) (by simp) ?_
        refine AllReadyH.cons (o := _) rfl (fun K hK => ?_) AllReadyH.nil
        refine step_appE (by rfl) (.tmp 150) (.tmp 159) (by rfl) (Z + 2) _ l' (by rfl) hE1 wr.heap.size ⟨ow, e.l, y⟩ (by rfl) (heap_alloc_new wr.drew _) hl32 hzs ?_
        intro v' w3 hE3 hg3 hat3
        have hA3 := ApS.ed (W := (wr.alloc (.cells #[.int .i64 ow, .int .i64 e.l, .int .i64 y] 72)).drew) (hA1.below (belowN (Below.refl _ _) 1)) hE1 hg3
        have m3 : w3.cell? ⟨N, 1, none⟩ = some (.int .i64 e.l) ∧ w3.cell? ⟨Z + 1, i, none⟩ = some (.int .i64 ow) := ⟨(World.cell?_of_block (hg3.block N (by simp; omega) fun h => HO5.out N h.symm rfl)).trans q1, (World.cell?_of_block (hg3.block (Z + 1) (by simp; omega) fun h => by have := (World.ownsRow.lt hE1 _ h.symm).1; omega)).trans q2⟩
        refine hK.out _ _ ?_ (fun hHeld => ?_)
        ·exact m3
        clear hK K
        (try simp only [List.getElem_toArray, List.getElem_cons_zero, List.getElem_cons_succ, Act.put, List.setIfInBounds_toArray, List.set_cons_zero, List.set_cons_succ])
        refine wpAnyH_take (i := 11) (oi := _) (v := ?_) rfl (by kernel_rfl) (by kernel_rfl) (by kernel_rfl) (fun _ _ _ h => h) (Or.inl ⟨by rfl, ?_⟩) (by assumption) ?_
        rotate_left
        ·(intro w hSw; (try dsimp only at hSw); go_simp; (try with_reducible rfl))
        (try simp only [List.getElem_toArray, List.getElem_cons_zero, List.getElem_cons_succ, Act.put, List.setIfInBounds_toArray, List.set_cons_zero, List.set_cons_succ])
        refine wpAnyH_done (by kernel_rfl) ?_ _
        refine NoPanic.normal ?_
        have HE9 := hide hE3
        have HA9 := hide hA3
        have HB9 := hide (show Below Z w1 w3 from HBa.out.drew.grown hg3 (by omega) fun k e => by have := (World.ownsRow.lt hE1 k e).1; omega)
        have HX9 := hide ((hg3.block N (by simp; omega) fun h => HO5.out N h.symm rfl).trans hX1)
        have HO9 := hide (fun k (h : v'.ownBlock = some k) => show k ≠ N from fun e => by subst e; exact hat3.elim (fun h2 => HO5.out _ (h2.symm.trans h) rfl) (fun h2 => by rw [h2] at h; simp at h; omega))
        have HN9 := hide (show (l' ++ [(⟨ow, e.l, y⟩ : Edg)]).length ≤ i * 1024 + (j + 1) from by have := HN5.out; simp; omega)
        clear hE3 hA3 hg3 hat3 m0 m1 m3 hE1 hA1 hX1
        go_wp2
        go_roundw
        case rel => exact ⟨j + 1, _, hjl, by go_num, HA9, HE9, HN9, HB9, HX9, HO9⟩
        case measure => simp [intOf]; omega
       ·obtain rfl : j = M := by omega
        have HNn := hide (show l'.length ≤ (i + 1) * 1024 from by have := HN5.out; omega)
        go_wp2
        go_roundw
        case rel => exact ⟨i + 1, l', hlt, by go_num, HA5, HE5, HNn, HB5⟩
        case measure => simp [intOf]; omega
     ·obtain rfl : i = es.length := by omega
      obtain ⟨a0p, c0p, h0⟩ := (HA2.out.fam.row 0 (by omega)).shape
      obtain ⟨a1p, c1p, h1⟩ := (HA2.out.fam.row 1 (by omega)).shape
      rw [HL.out.1] at h0
      rw [HL.out.2.1] at h1
      have HMk := hide (grMake_any L np (Z + 2) _ l wr HE2.out (by have := HN2.out; omega))
      obtain ⟨la, lc, rfl⟩ := HE2.out.shape
      obtain ⟨gq, gb, gr⟩ := HG1.out wr HB2.out
      obtain ⟨s0, s1, s2, _⟩ := at3 gb
      rw [h0, h1]
      have HR1 := hide (show RowI wr a1p (X 1) from by have h := HA2.out.fam.row 1 (by omega); rw [h1] at h; exact h.rowA.2)
      have HA1 := hide (show ∀ a, a1p = some a → Z + 2 ≤ a.block from fun a e => by have h := HA2.out.fam.row 1 (by omega); rw [h1, e] at h; exact (h.own_in rfl).1)
      clear gq gb h0 h1
      go_wp2_with fail
      (with_reducible refine HMk.out.mono ?_)
      rintro e w5 ⟨⟨gv, r, rfl, hgs, hok, hno⟩, hB5⟩
      have hX5 : Below Z w1 w5 := HB2.out.trans (hB5.mono (by have := HA2.out.lt; omega))
      obtain ⟨_, _, gr5⟩ := HG1.out w5 hX5
      have hR5 := HR1.out.below hB5
      have hzl := HZ1.out
      have hzw : Z ≤ w5.heap.size := by have := HA2.out.lt; have := hB5.size; omega
      clear HMk hB5 s0 s1 s2
      by_cases hr0 : r = 0
      ·subst hr0
       obtain ⟨A5, c5, ys, rfl, hRw, hGk⟩ := hok rfl
       have hgl : G + 1 < w5.heap.size := by omega
       have gr6 := (heap_alloc_old w5 (.cells #[.int .i64 L, .int .i64 (np : Int), .slice A5 ys.length c5] 24) hgl).trans gr5
       obtain ⟨t0, t1, t2, tf⟩ := at3 gr6
       obtain ⟨u0, u1, u2, _⟩ := at3 (heap_alloc_new w5 (.cells #[.int .i64 L, .int .i64 (np : Int), .slice A5 ys.length c5] 24))
       obtain ⟨v1, f1, v2, f2⟩ := box3 gr5 (.int .i64 L) (.int .i64 (np : Int)) (.cells #[.int .i64 L, .int .i64 (np : Int), .slice A5 ys.length c5] 24)
       have hs3 := set3 gr5 (.int .i64 L) (.int .i64 (np : Int)) (.slice A5 ys.length c5)
       have hAl : ∀ (X : World) (o : Obj), Below X.heap.size X (X.alloc o) := fun X o => (Below.refl _ _).alloc (Nat.le_refl _) _
       have HE6 := hide ((hRw.put3 gr5 (.int .i64 L) (.int .i64 (np : Int)) (.slice A5 ys.length c5)).below (hAl _ (.cells #[.int .i64 L, .int .i64 (np : Int), .slice A5 ys.length c5] 24)))
       have HI6 := hide ((hR5.set3 (b := G + 1) (fun a e => by have := HA1.out a e; omega) (.int .i64 L) (.int .i64 (np : Int)) (.slice A5 ys.length c5)).below (hAl _ (.cells #[.int .i64 L, .int .i64 (np : Int), .slice A5 ys.length c5] 24)))
       have HB6 := hide ((below_set3 (HG1.out _ hX5).1 (by omega : G ≤ G + 1) (.int .i64 L) (.int .i64 (np : Int)) (.slice A5 ys.length c5)).trans ((hAl _ (.cells #[.int .i64 L, .int .i64 (np : Int), .slice A5 ys.length c5] 24)).mono (by simp [World.setCell]; omega)))
       have hnp := (okG_size hGk).2.1
       have HLn := hide HL.out.2.1
       have HG6 := hide ((heap_alloc_old _ (.cells #[.int .i64 L, .int .i64 (np : Int), .slice A5 ys.length c5] 24) (by simpa [World.setCell] using hgl)).trans hs3)
       clear hRw hGk gr5 hX5 hR5 hAl hok hno gr6 hs3
       go_wp2
       refine bodyPost_ret (ret_graph4 rfl _ _ (G + 1) _ rfl HG6.out rfl) rfl ?_
       refine ⟨⟨L, np, A5, c5, ys, a1p, c1p, X 1, .slice a0p np c0p, 0, by rw [HLn.out]; rfl, HE6.out, HI6.out, by rw [HLn.out]; omega, fun a e => by have := HA1.out a e; omega⟩, HB6.out⟩
      ·obtain rfl := hno hr0
       have hrb : (r != 0) = true := bne_iff_ne.2 hr0
       have hgl : G + 1 < w5.heap.size := by omega
       have gr6 := (heap_alloc_old w5 (.cells #[.int .i64 0, .int .i64 0, .slice none 0 0] 24) hgl).trans gr5
       obtain ⟨t0, t1, t2, tf⟩ := at3 gr6
       obtain ⟨v1, f1, v2, f2⟩ := box3 gr5 (.int .i64 0) (.int .i64 0) (.cells #[.int .i64 0, .int .i64 0, .slice none 0 0] 24)
       have hs3 := set3 gr5 (.int .i64 0) (.int .i64 0) (.slice none 0 0)
       have hAl : ∀ (X : World) (o : Obj), Below X.heap.size X (X.alloc o) := fun X o => (Below.refl _ _).alloc (Nat.le_refl _) _
       have HB6 := hide ((below_set3 (HG1.out _ hX5).1 (by omega : G ≤ G + 1) (.int .i64 0) (.int .i64 0) (.slice none 0 0)).trans ((hAl _ (.cells #[.int .i64 0, .int .i64 0, .slice none 0 0] 24)).mono (by simp [World.setCell]; omega)))
       have HG6 := hide ((heap_alloc_old _ (.cells #[.int .i64 0, .int .i64 0, .slice none 0 0] 24) (by simpa [World.setCell] using hgl)).trans hs3)
       clear gr5 hX5 hR5 hAl hok hno gr6 hs3
       go_wp2
       refine bodyPost_ret (ret_graph4 rfl _ _ (G + 1) _ rfl HG6.out rfl) rfl ?_
       exact ⟨ApP.no _ _ 4, HB6.out⟩
 ·have h1 : (r != 0) = true := bne_iff_ne.2 h0
  clear hacc a0 a1 a2
  go_wp2
  refine bodyPost_ret (ret_graph4 rfl _ _ (G + 1) _ rfl (set3 hr1 (.int .i64 0) (.int .i64 0) (.slice none 0 0)) rfl) rfl ?_
  exact ⟨ApP.no _ _ r, below_set3 hB1' (by omega) _ _ _⟩
def FolP (P : Prop) (e : Ending) : Prop := ∃ (a b : Int) (o : Option Addr) (n c : Nat) (r : Int), e = .returned (.tuple #[.agg #[.int .i64 a, .int .i64 b, .slice o n c], .int .i64 r]) ∧ (r = 0 → P)
theorem at6 {w : World} {b : Nat} {x0 x1 x2 x3 x4 x5 : Value} {t : TypeId} (h : w.heap[b]? = some (.cells #[x0, x1, x2, x3, x4, x5] t (0, 0))) : w.cell? ⟨b, 0, none⟩ = some x0 ∧ w.cell? ⟨b, 1, none⟩ = some x1 ∧ w.cell? ⟨b, 2, none⟩ = some x2 ∧ w.cell? ⟨b, 3, none⟩ = some x3 ∧ w.cell? ⟨b, 4, none⟩ = some x4 ∧ w.cell? ⟨b, 5, none⟩ = some x5 :=
 ⟨(cell_of_row _ _ 0 _ _ _ h).trans rfl, (cell_of_row _ _ 1 _ _ _ h).trans rfl, (cell_of_row _ _ 2 _ _ _ h).trans rfl, (cell_of_row _ _ 3 _ _ _ h).trans rfl, (cell_of_row _ _ 4 _ _ _ h).trans rfl, (cell_of_row _ _ 5 _ _ _ h).trans rfl⟩
theorem RowE.putG {w : World} {A : Option Addr} {ys : List Edg} (h : RowE w A ys) {b : Nat} {t : TypeId} {x0 x1 : Value} {o : Option Addr} {n c : Nat} (hb : w.heap[b]? = some (.cells #[x0, x1, .slice o n c] t (0, 0))) (a0 a1 a2 : Value) : RowE (((w.setCell ⟨b, 0, none⟩ a0).setCell ⟨b, 1, none⟩ a1).setCell ⟨b, 2, none⟩ a2) A ys := by
 intro h0
 refine h.set3 (fun a e => ?_) a0 a1 a2 h0
 intro hab
 obtain ⟨g, o, rfl, _, hc⟩ := h h0
 simp only [Option.some.injEq] at e
 subst e
 simp only at hab
 subst hab
 have c1 := (hc 0 h0).2.2
 rw [cell_of_row _ _ _ _ _ _ hb] at c1
 match o, c1 with
 | 0, c1 => simp at c1
 | o + 1, c1 => simp at c1
set_option maxHeartbeats 1000000 in
theorem spVerifyf_any (v : Value) (w : World) : Calls Tryz.prog 133 #[v] w fun e w' => e = .returned (.tuple #[]) ∧ w' = w := by
 go_enter Tryz.func133, Tryz.ntmps133
 go_wp2
 go_end0
 exact ⟨rfl, rfl⟩
set_option maxRecDepth 100000 in
set_option maxHeartbeats 4000000 in
theorem spFollow_any (L S m : Int) (es : List Edg) (A : Option Addr) (c : Nat) (D : Option Addr) (cv : Nat) (vs : List Int) (rs : List (List Spl)) (R : Option Addr) (q : Nat) (w : World) (hr : RowE w A es) (hl : vs.length ≤ 4294967296) (hv : RowI w D vs) (hR : RowR w R rs) (hok : RndS rs) :
  Calls Tryz.prog 132 #[.agg #[.int .i64 L, .int .i64 S, .slice A es.length c, .slice D vs.length cv, .int .i64 m, .slice R rs.length q], .func (.func 133) #[] #[]] w fun e w' => FolP (baseB L S m es vs = true) e ∧ Below w.heap.size w w' := by
 obtain ⟨G, hG⟩ : ∃ G, w.heap.size = G := ⟨_, rfl⟩
 obtain ⟨W0, hW0⟩ : ∃ W0, W0 = (w.alloc (.cells #[.int .i64 L, .int .i64 S, .slice A es.length c, .slice D vs.length cv, .int .i64 m, .slice R rs.length q] 34)).alloc (.cells #[.int .i64 0, .int .i64 0, .slice none 0 0] 24) := ⟨_, rfl⟩
 have hB0 : Below G w W0 := by rw [hW0, ← hG]; exact ((Below.refl _ w).alloc (Nat.le_refl _) _).alloc (by simp) _
 have hg0 : W0.heap[G]? = some (.cells #[.int .i64 L, .int .i64 S, .slice A es.length c, .slice D vs.length cv, .int .i64 m, .slice R rs.length q] 34 (0, 0)) := by
  rw [hW0, ← hG, heap_alloc_old _ _ (by simp)]; exact heap_alloc_new w _
 have hr0 : W0.heap[G + 1]? = some (.cells #[.int .i64 0, .int .i64 0, .slice none 0 0] 24 (0, 0)) := by
  rw [hW0, ← hG]
  have := heap_alloc_new (w.alloc (.cells #[.int .i64 L, .int .i64 S, .slice A es.length c, .slice D vs.length cv, .int .i64 m, .slice R rs.length q] 34)) (.cells #[.int .i64 0, .int .i64 0, .slice none 0 0] 24)
  rwa [World.size_alloc] at this
 have hz0 : W0.heap.size = G + 2 := by rw [hW0]; simp; omega
 have HBs := hide (spBase_any L S m es A c D cv vs W0 (hr.below (hG.symm ▸ hB0)) hl (hv.below (hG.symm ▸ hB0)))
 have HRe := hide (fun W (h : Below G w W) => hr.below (hG.symm ▸ h))
 have HVi := hide (fun W (h : Below G w W) => hv.below (hG.symm ▸ h))
 have HRr := hide (fun W (h : Below G w W) => hR.below (hG.symm ▸ h))
 have HOk := hide hok
 have HG := hide hG
 obtain ⟨x0, x1, x2, x3, x4, x5⟩ := at6 hg0
 rw [hG]
 rw [← hG, hW0] at x0 x1 x2 x3 x4 x5
 clear hr hv hR hok hG
 go_enter Tryz.func132, Tryz.ntmps132
 go_wp2_with fail
 rw [← hW0]
 try rw [HG.out]
 clear x0 x1 x2 x3 x4 x5 hW0
 (with_reducible refine HBs.out.mono ?_)
 rintro e w1 ⟨r, rfl, hacc, hB1⟩
 have hB1' := hB0.trans (hB1.mono (by omega))
 have hg1 := (hB1.block G (by omega)).trans hg0
 have hr1 := (hB1.block (G + 1) (by omega)).trans hr0
 have hz1 : G + 2 ≤ w1.heap.size := by have := hB1.size; omega
 clear hB1 hg0 hr0 HBs hB0 hz0
 obtain ⟨a0, a1, a2, a3, a4, a5⟩ := at6 hg1
 obtain ⟨b0, b1, b2, bf⟩ := at3 hr1
 by_cases h0 : r = 0
 ·subst h0
  have HAc := hide (show baseB L S m es vs = true by rw [← hacc]; rfl)
  clear hacc
  by_cases h64 : 64 < rs.length
  ·have hb : decide ((64 : Int) < (rs.length : Int)) = true := by simp; omega
   have hb' : decide (64 < rs.length) = true := by simp; omega
   go_wp2
   refine bodyPost_ret (ret_graphE rfl _ _ (G + 1) _ rfl (set3 hr1 (.int .i64 0) (.int .i64 0) (.slice none 0 0)) rfl) rfl ?_
   exact ⟨⟨_, _, _, _, _, 4, rfl, fun h => absurd h (by decide)⟩, below_set3 hB1' (by omega) _ _ _⟩
  ·have hb : decide ((64 : Int) < (rs.length : Int)) = false := by simp; omega
   have hb' : decide (64 < rs.length) = false := by simp; omega
   have up : ∀ {p : Addr} {v : Value} (o : Obj), w1.cell? p = some v → (w1.alloc o).cell? p = some v := fun o h => (World.cell?_alloc_lt _ _ _ (World.block_lt_of_cell? _ _ h)).trans h
   have z0 := up (.cells #[.int .i64 0, .int .i64 0, .slice none 0 0] 24) a0
   have z1 := up (.cells #[.int .i64 0, .int .i64 0, .slice none 0 0] 24) a1
   have z2 := up (.cells #[.int .i64 0, .int .i64 0, .slice none 0 0] 24) a2
   have z3 := up (.cells #[.int .i64 0, .int .i64 0, .slice none 0 0] 24) a3
   have y3 := up (.cells #[.int .i64 L, .int .i64 S, .slice A es.length c] 24) a3
   clear up
   go_wp2_with fail
   go_region
   clear z0 z1 z2 z3 y3 a0 a1 a2 a3 a4 a5 b0 b1 b2 bf
   obtain ⟨P, hP⟩ : ∃ P, w1.heap.size = P := ⟨_, rfl⟩
   have hP2 : (w1.alloc (.cells #[.int .i64 L, .int .i64 S, .slice A es.length c] 24)).drew.heap[P]? = some (.cells #[.int .i64 L, .int .i64 S, .slice A es.length c] 24 (0, 0)) := hP ▸ heap_alloc_new w1 _
   have hB2 : Below P w1 (w1.alloc (.cells #[.int .i64 L, .int .i64 S, .slice A es.length c] 24)).drew := by rw [← hP]; exact ((Below.refl _ _).alloc (Nat.le_refl _) _).drew
   rw [hP]
   generalize (w1.alloc (.cells #[.int .i64 L, .int .i64 S, .slice A es.length c] 24)).drew = W2 at hP2 hB2 ⊢
   have HG1 := hide (fun W (h : Below P w1 W) => show Below G w W ∧ W.heap[G]? = some (.cells #[.int .i64 L, .int .i64 S, .slice A es.length c, .slice D vs.length cv, .int .i64 m, .slice R rs.length q] 34 (0, 0)) ∧ W.heap[G + 1]? = some (.cells #[.int .i64 0, .int .i64 0, .slice none 0 0] 24 (0, 0)) from ⟨hB1'.trans (h.mono (by omega)), (h.block G (by omega)).trans hg1, (h.block (G + 1) (by omega)).trans hr1⟩)
   have hPG : G + 2 ≤ P := by omega
   have hR64 : rs.length ≤ 64 := by omega
   clear hg1 hr1 hB1' hz1 hP hb hb' h64
   obtain ⟨_, _, _, _, _, a5⟩ := at6 (HG1.out W2 hB2).2.1
   have HE0 := hide (HRe.out W2 (HG1.out W2 hB2).1)
   have HI0 := hide (HVi.out W2 (HG1.out W2 hB2).1)
   have HP2 := hide hP2
   have HB2 := hide hB2
   clear hP2 hB2
   go_wp2_with fail
   go_loopw [8, 38] (fun vv iv wr => ∃ (k : Nat) (L' S' : Int) (A' : Option Addr) (c' : Nat) (ys : List Edg) (D' : Option Addr) (d' : Nat) (zs : List Int), k ≤ rs.length ∧ iv = .int .i64 k ∧ vv = .slice D' zs.length d' ∧
    Hid (wr.heap[P]? = some (.cells #[.int .i64 L', .int .i64 S', .slice A' ys.length c'] 24 (0, 0))) ∧ Hid (RowE wr A' ys) ∧ Hid (RowI wr D' zs) ∧ Hid (zs.length ≤ 4294967296) ∧ Hid (Below P w1 wr)) (fun _ iv _ => rs.length - (intOf iv).toNat)
   case atStart => exact ⟨0, L, S, A, c, es, D, cv, vs, Nat.zero_le _, rfl, rfl, HP2, HE0, HI0, hide hl, HB2⟩
   case round =>
    obtain ⟨k, L', S', A', c', ys, D', d', zs, hk, rfl, rfl, HP, HE, HI, HZ, HB⟩ := hrel
    obtain ⟨hBG, hG, hG1⟩ := HG1.out wr HB.out
    have hPl : P < wr.heap.size := (Array.getElem?_eq_some_iff.1 HP.out).1
    clear a5 HP2 HB2 HE0 HI0
    by_cases hlt : k < rs.length
    ·obtain ⟨bR, oR, rfl, hRl, hRc⟩ := HRr.out wr hBG (by omega)
     obtain ⟨DS, dS, r1, hSp⟩ := hRc k hlt
     obtain ⟨hsl, hsp⟩ := HOk.out _ (List.getElem_mem hlt)
     obtain ⟨ss, hss⟩ : ∃ ss, rs[k] = ss := ⟨_, rfl⟩
     rw [hss] at r1 hSp hsl hsp
     have HAp := hide (spApply_any L' S' m ys A' c' D' d' zs ss DS dS wr HE.out HZ.out HI.out hSp hsl hsp)
     obtain ⟨_, _, _, _, a4, a5⟩ := at6 hG
     obtain ⟨p0, p1, p2, pf⟩ := at3 HP.out
     have HGe := hide hG
     have HG1e := hide hG1
     clear hRc hSp hsl hsp hss hG hG1
     go_wp2_with fail
     (with_reducible refine HAp.out.mono ?_)
     rintro e w3 ⟨⟨L2, S2, A2, c2, ys2, D2, d2, zs2, pv, r, rfl, hE2, hI2, hz2, hfr⟩, hB3⟩
     have hX3 : Below P w1 w3 := HB.out.trans (hB3.mono (by omega))
     have hP3 := (hB3.block P hPl).trans HP.out
     have hR3 := (HG1.out w3 hX3).2.2
     have hz3 : P < w3.heap.size := Nat.lt_of_lt_of_le hPl hB3.size
     clear HAp a4 a5 p0 p1 p2 pf r1 hRl
     have hAl : ∀ (X : World) (o : Obj), Below X.heap.size X (X.alloc o) := fun X o => (Below.refl _ _).alloc (Nat.le_refl _) _
     by_cases h0 : r = 0
     ·subst h0
      have gr6 := (heap_alloc_old w3 (.cells #[.int .i64 L2, .int .i64 S2, .slice A2 ys2.length c2] 24) hz3).trans hP3
      obtain ⟨t0, t1, t2, tf⟩ := at3 gr6
      obtain ⟨u0, u1, u2, _⟩ := at3 (heap_alloc_new w3 (.cells #[.int .i64 L2, .int .i64 S2, .slice A2 ys2.length c2] 24))
      obtain ⟨v1, f1, v2, f2⟩ := box3 hP3 (.int .i64 L2) (.int .i64 S2) (.cells #[.int .i64 L2, .int .i64 S2, .slice A2 ys2.length c2] 24)
      have hs3 := set3 hP3 (.int .i64 L2) (.int .i64 S2) (.slice A2 ys2.length c2)
      have HE6 := hide ((hE2.putG hP3 (.int .i64 L2) (.int .i64 S2) (.slice A2 ys2.length c2)).below (hAl _ (.cells #[.int .i64 L2, .int .i64 S2, .slice A2 ys2.length c2] 24)))
      have HI6 := hide ((hI2.set3 (b := P) (fun a e => by have := hfr a e; omega) (.int .i64 L2) (.int .i64 S2) (.slice A2 ys2.length c2)).below (hAl _ (.cells #[.int .i64 L2, .int .i64 S2, .slice A2 ys2.length c2] 24)))
      have HB6 := hide ((below_set3 hX3 (Nat.le_refl P) (.int .i64 L2) (.int .i64 S2) (.slice A2 ys2.length c2)).trans ((hAl _ (.cells #[.int .i64 L2, .int .i64 S2, .slice A2 ys2.length c2] 24)).mono (by simp [World.setCell]; omega)))
      have HP6 := hide ((heap_alloc_old _ (.cells #[.int .i64 L2, .int .i64 S2, .slice A2 ys2.length c2] 24) (by simpa [World.setCell] using hz3)).trans hs3)
      have HZ6 := hide (show zs2.length ≤ 4294967296 by omega)
      have HVf := hide (fun v W => spVerifyf_any v W)
      clear hE2 hI2 hP3 hR3 hX3 hAl hs3 gr6 hB3 hfr hz2 hBG hPl HE HI HZ HB HP HGe HG1e
      go_wp2_with (go_at_call 133; (with_reducible refine (HVf.out _ _).mono ?_); rintro e w' ⟨rfl, rfl⟩)
      go_roundw
      case rel => exact ⟨k + 1, L2, S2, A2, c2, ys2, D2, d2, zs2, hlt, by go_num, rfl, HP6, HE6, HI6, HZ6, HB6⟩
      case measure => simp [intOf]; omega
     ·have h1 : (r != 0) = true := bne_iff_ne.2 h0
      have gr6 := (heap_alloc_old w3 (.cells #[.int .i64 L2, .int .i64 S2, .slice A2 ys2.length c2] 24) (show G + 1 < w3.heap.size by omega)).trans hR3
      obtain ⟨t0, t1, t2, tf⟩ := at3 gr6
      have hs3 := set3 gr6 (.int .i64 0) (.int .i64 0) (.slice none 0 0)
      have HB6 := hide (below_set3 ((HG1.out _ hX3).1.alloc (by omega) (.cells #[.int .i64 L2, .int .i64 S2, .slice A2 ys2.length c2] 24)) (by omega : G ≤ G + 1) (.int .i64 0) (.int .i64 0) (.slice none 0 0))
      have HG6 := hide hs3
      clear hE2 hI2 hP3 hR3 hX3 hAl hs3 gr6 hB3 hfr hz2 hBG hPl HE HI HZ HB HP HGe HG1e
      go_wp2
      refine bodyPost_ret (ret_graphE rfl _ _ (G + 1) _ rfl HG6.out rfl) rfl ?_
      exact ⟨⟨_, _, _, _, _, r, rfl, fun h => absurd h h0⟩, HB6.out⟩
    ·obtain rfl : k = rs.length := by omega
     have HLi := hide (spLight_any zs D' d' wr HZ.out HI.out)
     clear hG hG1
     go_wp2_with fail
     (with_reducible refine HLi.out.mono ?_)
     rintro e w3 ⟨⟨b, rfl⟩, hB3⟩
     have hX3 : Below P w1 w3 := HB.out.trans (hB3.mono (by omega))
     have hP3 := (hB3.block P hPl).trans HP.out
     have hR3 := (HG1.out w3 hX3).2.2
     have hXG := (HG1.out w3 hX3).1
     obtain ⟨p0, p1, p2, _⟩ := at3 hP3
     obtain ⟨t0, t1, t2, tf⟩ := at3 hR3
     clear HLi hX3
     cases b
     ·go_wp2
      refine bodyPost_ret (ret_graphE rfl _ _ (G + 1) _ rfl (set3 hR3 (.int .i64 0) (.int .i64 0) (.slice none 0 0)) rfl) rfl ?_
      exact ⟨⟨_, _, _, _, _, 23, rfl, fun h => absurd h (by decide)⟩, below_set3 hXG (by omega) _ _ _⟩
     ·go_wp2
      refine bodyPost_ret (ret_graphE rfl _ _ (G + 1) _ rfl (set3 hR3 (.int .i64 L') (.int .i64 S') (.slice A' ys.length c')) rfl) rfl ?_
      exact ⟨⟨_, _, _, _, _, 0, rfl, fun _ => HAc.out⟩, below_set3 hXG (by omega) _ _ _⟩
 ·have h1 : (r != 0) = true := bne_iff_ne.2 h0
  clear hacc
  go_wp2
  refine bodyPost_ret (ret_graphE rfl _ _ (G + 1) _ rfl (set3 hr1 (.int .i64 0) (.int .i64 0) (.slice none 0 0)) rfl) rfl ?_
  exact ⟨⟨_, _, _, _, _, r, rfl, fun h => absurd h h0⟩, below_set3 hB1' (by omega) _ _ _⟩
set_option maxRecDepth 100000 in
set_option maxHeartbeats 4000000 in
theorem same_nil (x : Crt) (k : Int) (w : World) :
  Calls Tryz.prog 14 #[.agg x.cells, .agg (Crt.nil k).cells] w fun e w' => e = .returned (.bool (x.none k)) ∧ Below w.heap.size w w' := by
 have H1 := hide (fun W => graphs_nil x.gl x.gs x.ge.A x.ge.n x.ge.c W)
 have H3 := hide (fun W => eqStr_nil x.cw.A x.cw.n x.cw.c W)
 have H5 := hide (fun W => listsI_nil x.mn.A x.mn.n x.mn.c W)
 have H6 := hide (fun W => graphs_nil x.pl x.ps x.pe.A x.pe.n x.pe.c W)
 have H7 := hide (fun W => eqInt_nil x.pw.A x.pw.n x.pw.c W)
 have H9 := hide (fun W => eqfSplits_nil x.pr.A x.pr.n x.pr.c W)
 have H10 := hide (fun W => eqApiInt_nil x.nu.A x.nu.n x.nu.c W)
 have H11 := hide (fun W => eqInt_nil x.ix.A x.ix.n x.ix.c W)
 have H12 := hide (fun W => eqStr_nil x.wo.A x.wo.n x.wo.c W)
 have H13 := hide (fun W => listsI_nil x.ro.A x.ro.n x.ro.c W)
 have H14 := hide (fun W => listsA_nil x.ta.A x.ta.n x.ta.c W)
 obtain ⟨R, hR⟩ : ∃ R, x.none k = R := ⟨_, rfl⟩
 rw [hR]
 unfold Crt.none at hR
 unfold Crt.cells Crt.nil Sl.nil Sl.v
 dsimp only
 obtain ⟨b0, hb0⟩ : ∃ b, (x.kind == k) = b := ⟨_, rfl⟩
 obtain ⟨b1, hb1⟩ : ∃ b, ((x.gl == 0) && (x.gs == 0) && decide (x.ge.n = 0)) = b := ⟨_, rfl⟩
 obtain ⟨b2, hb2⟩ : ∃ b, (x.cl == 0) = b := ⟨_, rfl⟩
 obtain ⟨b3, hb3⟩ : ∃ b, decide (x.cw.n = 0) = b := ⟨_, rfl⟩
 obtain ⟨b4, hb4⟩ : ∃ b, (x.ml == 0) = b := ⟨_, rfl⟩
 obtain ⟨b5, hb5⟩ : ∃ b, decide (x.mn.n = 0) = b := ⟨_, rfl⟩
 obtain ⟨b6, hb6⟩ : ∃ b, ((x.pl == 0) && (x.ps == 0) && decide (x.pe.n = 0)) = b := ⟨_, rfl⟩
 obtain ⟨b7, hb7⟩ : ∃ b, decide (x.pw.n = 0) = b := ⟨_, rfl⟩
 obtain ⟨b8, hb8⟩ : ∃ b, (x.pi == 0) = b := ⟨_, rfl⟩
 obtain ⟨b9, hb9⟩ : ∃ b, decide (x.pr.n = 0) = b := ⟨_, rfl⟩
 obtain ⟨b10, hb10⟩ : ∃ b, decide (x.nu.n = 0) = b := ⟨_, rfl⟩
 obtain ⟨b11, hb11⟩ : ∃ b, decide (x.ix.n = 0) = b := ⟨_, rfl⟩
 obtain ⟨b12, hb12⟩ : ∃ b, decide (x.wo.n = 0) = b := ⟨_, rfl⟩
 obtain ⟨b13, hb13⟩ : ∃ b, decide (x.ro.n = 0) = b := ⟨_, rfl⟩
 obtain ⟨b14, hb14⟩ : ∃ b, decide (x.ta.n = 0) = b := ⟨_, rfl⟩
 rw [hb0, hb1, hb2, hb3, hb4, hb5, hb6, hb7, hb8, hb9, hb10, hb11, hb12, hb13, hb14] at hR
 rw [hb1] at H1
 clear hb1
 rw [hb3] at H3
 clear hb3
 rw [hb5] at H5
 clear hb5
 rw [hb6] at H6
 clear hb6
 rw [hb7] at H7
 clear hb7
 rw [hb9] at H9
 clear hb9
 rw [hb10] at H10
 clear hb10
 rw [hb11] at H11
 clear hb11
 rw [hb12] at H12
 clear hb12
 rw [hb13] at H13
 clear hb13
 rw [hb14] at H14
 clear hb14
 have HR := hide hR
 clear hR
 cases b0
 ·have HV := hide (show R = false by rw [← HR.out]; rfl)
  clear HR
  go_enter Tryz.func14, Tryz.ntmps14
  dsimp only [List.append]
  go_wp2
  go_ret
  refine ⟨by rw [HV.out]; rfl, ?_⟩
  repeat (first | exact Below.refl _ _ | refine Below.alloc ?_ (by simp <;> omega) _)
 go_enter Tryz.func14, Tryz.ntmps14
 dsimp only [List.append]
 go_wp2_with fail
 with_reducible refine (H1.out _).mono ?_
 rintro e w' ⟨rfl, rfl⟩
 cases b1
 ·have HV := hide (show R = false by rw [← HR.out]; rfl)
  go_wp2
  go_ret
  refine ⟨by rw [HV.out]; rfl, ?_⟩
  repeat (first | exact Below.refl _ _ | refine Below.alloc ?_ (by simp <;> omega) _)
 cases b2
 ·have HV := hide (show R = false by rw [← HR.out]; rfl)
  go_wp2
  go_ret
  refine ⟨by rw [HV.out]; rfl, ?_⟩
  repeat (first | exact Below.refl _ _ | refine Below.alloc ?_ (by simp <;> omega) _)
 go_wp2_with fail
 with_reducible refine (H3.out _).mono ?_
 rintro e w' ⟨rfl, rfl⟩
 cases b3
 ·have HV := hide (show R = false by rw [← HR.out]; rfl)
  go_wp2
  go_ret
  refine ⟨by rw [HV.out]; rfl, ?_⟩
  repeat (first | exact Below.refl _ _ | refine Below.alloc ?_ (by simp <;> omega) _)
 cases b4
 ·have HV := hide (show R = false by rw [← HR.out]; rfl)
  go_wp2
  go_ret
  refine ⟨by rw [HV.out]; rfl, ?_⟩
  repeat (first | exact Below.refl _ _ | refine Below.alloc ?_ (by simp <;> omega) _)
 go_wp2_with fail
 with_reducible refine (H5.out _).mono ?_
 rintro e w' ⟨rfl, rfl⟩
 cases b5
 ·have HV := hide (show R = false by rw [← HR.out]; rfl)
  go_wp2
  go_ret
  refine ⟨by rw [HV.out]; rfl, ?_⟩
  repeat (first | exact Below.refl _ _ | refine Below.alloc ?_ (by simp <;> omega) _)
 go_wp2_with fail
 with_reducible refine (H6.out _).mono ?_
 rintro e w' ⟨rfl, rfl⟩
 cases b6
 ·have HV := hide (show R = false by rw [← HR.out]; rfl)
  go_wp2
  go_ret
  refine ⟨by rw [HV.out]; rfl, ?_⟩
  repeat (first | exact Below.refl _ _ | refine Below.alloc ?_ (by simp <;> omega) _)
 go_wp2_with fail
 with_reducible refine (H7.out _).mono ?_
 rintro e w' ⟨rfl, rfl⟩
 cases b7
 ·have HV := hide (show R = false by rw [← HR.out]; rfl)
  go_wp2
  go_ret
  refine ⟨by rw [HV.out]; rfl, ?_⟩
  repeat (first | exact Below.refl _ _ | refine Below.alloc ?_ (by simp <;> omega) _)
 cases b8
 ·have HV := hide (show R = false by rw [← HR.out]; rfl)
  go_wp2
  go_ret
  refine ⟨by rw [HV.out]; rfl, ?_⟩
  repeat (first | exact Below.refl _ _ | refine Below.alloc ?_ (by simp <;> omega) _)
 go_wp2_with fail
 with_reducible refine (H9.out _).mono ?_
 rintro e w' ⟨rfl, rfl⟩
 cases b9
 ·have HV := hide (show R = false by rw [← HR.out]; rfl)
  go_wp2
  go_ret
  refine ⟨by rw [HV.out]; rfl, ?_⟩
  repeat (first | exact Below.refl _ _ | refine Below.alloc ?_ (by simp <;> omega) _)
 go_wp2_with fail
 with_reducible refine (H10.out _).mono ?_
 rintro e w' ⟨rfl, rfl⟩
 cases b10
 ·have HV := hide (show R = false by rw [← HR.out]; rfl)
  go_wp2
  go_ret
  refine ⟨by rw [HV.out]; rfl, ?_⟩
  repeat (first | exact Below.refl _ _ | refine Below.alloc ?_ (by simp <;> omega) _)
 go_wp2_with fail
 with_reducible refine (H11.out _).mono ?_
 rintro e w' ⟨rfl, rfl⟩
 cases b11
 ·have HV := hide (show R = false by rw [← HR.out]; rfl)
  go_wp2
  go_ret
  refine ⟨by rw [HV.out]; rfl, ?_⟩
  repeat (first | exact Below.refl _ _ | refine Below.alloc ?_ (by simp <;> omega) _)
 go_wp2_with fail
 with_reducible refine (H12.out _).mono ?_
 rintro e w' ⟨rfl, rfl⟩
 cases b12
 ·have HV := hide (show R = false by rw [← HR.out]; rfl)
  go_wp2
  go_ret
  refine ⟨by rw [HV.out]; rfl, ?_⟩
  repeat (first | exact Below.refl _ _ | refine Below.alloc ?_ (by simp <;> omega) _)
 go_wp2_with fail
 with_reducible refine (H13.out _).mono ?_
 rintro e w' ⟨rfl, rfl⟩
 cases b13
 ·have HV := hide (show R = false by rw [← HR.out]; rfl)
  go_wp2
  go_ret
  refine ⟨by rw [HV.out]; rfl, ?_⟩
  repeat (first | exact Below.refl _ _ | refine Below.alloc ?_ (by simp <;> omega) _)
 go_wp2_with fail
 with_reducible refine (H14.out _).mono ?_
 rintro e w' ⟨rfl, rfl⟩
 cases b14
 ·have HV := hide (show R = false by rw [← HR.out]; rfl)
  go_wp2
  go_ret
  refine ⟨by rw [HV.out]; rfl, ?_⟩
  repeat (first | exact Below.refl _ _ | refine Below.alloc ?_ (by simp <;> omega) _)
 have HV := hide (show R = true by rw [← HR.out]; rfl)
 go_wp2
 go_ret
 refine ⟨by rw [HV.out]; rfl, ?_⟩
 repeat (first | exact Below.refl _ _ | refine Below.alloc ?_ (by simp <;> omega) _)
end Go.Proofs.YtbnpjoiojhnimaaGreatDoor
