/- reader.first over slices.Values: its contract. -/
import Derived.Test.YtmajalpmbppkpaaVal
import Derived.Test.YtmajalpmbppkpaaNum
set_option linter.unusedVariables false
namespace Go.Proofs.Ytmajalpmbppkpaa
open Go.RowKit Go.Shelf Go.Maps
attribute [local go_sem] Oper.semAt_some
/-- how an element reads: as it stands -/
def heldElem (v : Value) : Option (DataW Value × List MemPlace) := some (.held v, [])
theorem Try.underlyingMsec : Try.prog.underlying 73 = some (.map 3 71) := by kernel_rfl
def zeroSec : Value := .agg #[.int .i64 0, .int .i64 0, .int .i64 0, .slice none 0 0]
def fstV (L : List SV) (z : Int) : Option SV := L.find? fun x => decide (x.1.1.st = 1) && decide (x.1.1.ix = z)
theorem fstV_of (L : List SV) (z : Int) : fstOf (L.map fun x => x.1.1) z = (fstV L z).map fun x => x.1.1 := by
  unfold fstOf fstV
  rw [List.find?_map]
  rfl
def FstD (D : DataW Value) (L : List SV) : Prop := IsMap D ∧ ∀ z, has D (.int .i64 z) = (fstV L z).isSome ∧ ∀ x, fstV L z = some x → ∀ zd, D.atKey (.int .i64 z) zd = .held (encV x)
theorem FstD.nil : FstD (.map []) [] := ⟨⟨[], rfl⟩, fun z => ⟨rfl, fun x h => by simp [fstV] at h⟩⟩
theorem fstV_snoc (L : List SV) (x : SV) (z : Int) : fstV (L ++ [x]) z = (fstV L z).or (if x.1.1.st = 1 ∧ x.1.1.ix = z then some x else none) := by
  unfold fstV
  rw [List.find?_append]
  congr 1
  by_cases h : x.1.1.st = 1 ∧ x.1.1.ix = z
  · rw [if_pos h]; simp [h.1, h.2]
  · rw [if_neg h]
    rw [List.find?_eq_none]
    intro y hy
    obtain rfl : y = x := by simpa using hy
    simpa using h
theorem FstD.skip {D : DataW Value} {L : List SV} {x : SV} (h : FstD D L) (hx : (fstV L x.1.1.ix).isSome = true ∨ x.1.1.st ≠ 1) : FstD D (L ++ [x]) := by
  have e : ∀ z, fstV (L ++ [x]) z = fstV L z := fun z => by
    rw [fstV_snoc]
    by_cases h1 : x.1.1.st = 1 ∧ x.1.1.ix = z
    · rcases hx with hx | hx
      · rw [← h1.2]
        obtain ⟨y, hy⟩ := Option.isSome_iff_exists.1 hx
        rw [hy]; rfl
      · exact absurd h1.1 hx
    · rw [if_neg h1]; simp
  exact ⟨h.1, fun z => by rw [e]; exact h.2 z⟩
theorem FstD.put {D : DataW Value} {L : List SV} {x : SV} (h : FstD D L) (hx : fstV L x.1.1.ix = none) (h1 : x.1.1.st = 1) : FstD (D.put (.int .i64 x.1.1.ix) (.held (encV x))) (L ++ [x]) := by
  refine ⟨h.1.put _ _, fun z => ?_⟩
  by_cases e : z = x.1.1.ix
  · subst e
    rw [fstV_snoc, hx, if_pos ⟨h1, rfl⟩]
    refine ⟨by rw [has_put_same h.1 (by unfold WideAt.IsKeyLit; trivial)]; rfl, fun y hy zd => ?_⟩
    have : x = y := by simpa using hy
    subst this
    exact atKey_put_same h.1 (by unfold WideAt.IsKeyLit; trivial) _ _
  · have e2 : fstV (L ++ [x]) z = fstV L z := by rw [fstV_snoc, if_neg (fun h => e h.2.symm)]; simp
    rw [e2]
    have hne : Lit.int .i64 z ≠ .int .i64 x.1.1.ix := by simpa using e
    exact ⟨by rw [has_put_other hne]; exact (h.2 z).1, fun y hy zd => by rw [atKey_put_other hne]; exact (h.2 z).2 y hy zd⟩
/-- the map holds the first good sector of each number -/
def MapV (w : World) (B n : Nat) (L : List SV) : Prop := ∃ D, w.ownsMap Try.prog 3 heldElem B n D ∧ FstD D L
theorem MapV.kept {w w' : World} {B n : Nat} {L : List SV} {row : Option Nat} (h : MapV w B n L) (hg : w.grownBy w' row) (hne : some B ≠ row) : MapV w' B n L := by
  obtain ⟨D, h1, h2⟩ := h
  exact ⟨D, h1.kept hg hne, h2⟩
/-- what a look-up hands back -/
def lookV (L : List SV) (z : Int) : Value := match fstV L z with | some x => encV x | none => zeroSec
theorem MapV.look {w : World} {B n : Nat} {L : List SV} (h : MapV w B n L) (z : Int) (hz : (Lit.int .i64 z).wf = true) :
    (Instr.lookup 73 (.map (some B)) (.int .i64 z) true).run Try.prog w = .ok (.tuple #[lookV L z, .bool (fstV L z).isSome]) w := by
  obtain ⟨D, h1, h2⟩ := h
  obtain ⟨v, ps, hr, hv⟩ := h1.look_ok intLaw Try.underlyingMsec (z := zeroSec) (Try.zeroValue71 w) (zd := .held zeroSec) (zp := []) rfl (Maps.keyOf_int_mk Try.underlying3 hz)
  rw [hr, (h2.2 z).1]
  have e : v = lookV L z := by
    have hv' : DataW.held v = D.atKey (.int .i64 z) (.held zeroSec) := congrArg Prod.fst (Option.some.inj hv)
    unfold lookV
    cases hf : fstV L z with
    | some x => rw [(h2.2 z).2 x hf] at hv'; simpa using hv'
    | none =>
      have := (h2.2 z).1
      rw [hf] at this
      rw [atKey_of_not_has this] at hv'
      simpa using hv'
  rw [e]
theorem MapV.store {w : World} {B n : Nat} {L : List SV} (h : MapV w B n L) (hn : n ≤ 100) (x : SV) (hx : fstV L x.1.1.ix = none) (h1 : x.1.1.st = 1) :
    ∃ w', (Instr.mapUpdate 73 (.map (some B)) (.int .i64 x.1.1.ix) (encV x)).run Try.prog w = .ok () w' ∧ MapV w' B (n + 1) (L ++ [x]) ∧ w.grownBy w' (some B) := by
  obtain ⟨D, hD, hF⟩ := h
  obtain ⟨w', hr, ho, hg⟩ := hD.update (val := encV x) (ps := []) intLaw Try.underlyingMsec (by unfold maxLen; omega) (Maps.keyOf_int_mk Try.underlying3 x.2) rfl
  exact ⟨w', hr, ⟨_, ho, hF.put hx h1⟩, hg⟩
theorem MapV.made (w : World) : MapV (w.alloc (.map #[] 0)) w.heap.size 0 [] := ⟨_, World.ownsMap_made w _ _ _, FstD.nil⟩
theorem cell_new_v (W : World) (v : Value) (t : TypeId) : (W.alloc (.cells #[v] t)).cell? ⟨W.heap.size, 0, none⟩ = some v :=
  cell_of_one (heap_alloc_new _ _)
def InvV (w : World) (pre : List SV) (W : World) : Prop := (W.cell? ⟨w.heap.size + 1, 0, none⟩ = some (.map (some w.heap.size)) ∧ MapV W w.heap.size pre.length pre) ∧ Below w.heap.size w W
set_option maxRecDepth 100000 in
set_option maxHeartbeats 4000000 in
theorem rdFirst_any (L : List SV) (A : Option Addr) (cap Bs : Nat) (w : World) (hb : L.length ≤ 12) (hBs : Bs < w.heap.size) (hc : w.cell? ⟨Bs, 0, none⟩ = some (.slice A L.length cap)) (hR : RowV w.heap.size w A L) :
    Calls Try.prog 54 #[.func (.func 83) #[] #[.pointer (some ⟨Bs, 0, none⟩)]] w fun e w' => e = .returned (.map (some w.heap.size)) ∧ MapV w' w.heap.size L.length L ∧ Below w.heap.size w w' := by
  refine (callsIn_wide (n := 3)).1 ?_
  have hmm := @run_makeMap Try.prog
  refine callsIn_of_wp_marks Try.func54 rfl trivial ?_ rfl
  simp only [Try.ntmps54, List.size_toArray, List.length_cons, List.length_nil, Nat.reduceAdd, Nat.reduceSub, Array.replicate_succ, Array.replicate_zero, List.push_toArray, List.append_toArray, List.nil_append, List.cons_append]
  gi_wp2
  have hm0 := MapV.made w
  have cS := cell_new_v (w.alloc (.map #[] 0)) (.map (some w.heap.size)) 73
  rw [World.size_alloc] at cS
  have hB0 : Below w.heap.size w ((w.alloc (.map #[] 0)).alloc (.cells #[.map (some w.heap.size)] 73)) := ((Below.refl _ w).alloc (Nat.le_refl _) _).alloc (by simp) _
  refine wpIn_rangeFunc_ownH rfl (by omega) (gf := 83) (lb := #[.pointer (some ⟨Bs, 0, none⟩)]) rfl trivial (enters_of Try.func83 (by kernel_rfl) rfl)
    (valsf_stops Fence.wide 2 trivial rfl (by omega) Bs w.heap.size A cap L hb _ (by simp; omega) (by simp; omega) ((hB0.cell (p := ⟨Bs, 0, none⟩) hBs).trans hc) (hR.below hB0)) belowK_t (belowK_b (by simp; omega)) (Below.refl _ _) (fun _ => rfl)
    (InvV w)
    (fun _ _ _ => False)
    (OwnFrom.and (fun s A B row hs hg hr => ⟨cell_kept hs.1 hg (fun r e => (hr r e).2), hs.2.kept hg (fun e => by have := (hr _ e.symm).1; simp at this; omega)⟩) (ownFrom_below (Nat.le_refl _) (by simp; omega)))
    (fun _ _ _ _ _ hs _ _ => hs)
    ⟨⟨cS, hm0.kept (World.grownBy_alloc _ _ none) (by simp)⟩, hB0⟩
    (fun x a' W => ∃ Bx, w.heap.size + 1 < Bx ∧ W.heap[Bx]? = some (.cells #[.int .i64 x.1.1.ix, .int .i64 x.1.1.pos, .int .i64 x.1.1.st, .slice x.1.2.1 x.1.1.dt.length x.1.2.2] 71 (0, 0)) ∧ a' = { tmps := #[.func (.func 83) #[] #[.pointer (some ⟨Bs, 0, none⟩)], undef, .map none, .pointer (some ⟨w.heap.size + 1, 0, none⟩), .pointer (some ⟨Bx, 0, none⟩), undef, undef, .map (some w.heap.size), .func (.func 83) #[] #[.pointer (some ⟨Bs, 0, none⟩)], encV x, undef, undef, undef, undef, undef, undef, undef, undef, undef, undef, undef, undef, undef, undef, undef, undef, undef, undef, undef], defers := [] })
    ?hax ?assign ?body ?done ?stop
  case hax =>
    intro x a' s X Y row hs hg hrow
    obtain ⟨Bx, h1, h2, h3⟩ := hs
    refine ⟨Bx, h1, (hg.block Bx (Array.getElem?_eq_some_iff.1 h2).1 (fun e => ?_)).trans h2, h3⟩
    obtain ⟨_, o, ho, hcc⟩ := hrow Bx e.symm
    rw [h2] at ho
    cases ho
    cases hcc
  case assign =>
    rintro l pre x W K ⟨⟨hcm, hm⟩, hB⟩ hK
    obtain ⟨⟨⟨x0, x1, x2, x3⟩, D, cd⟩, hwf⟩ := x
    simp only [encV] at hK ⊢
    gi_wp2
    have hB2 : Below w.heap.size W (W.alloc (Obj.cells #[Value.int IntKind.i64 x0, Value.int IntKind.i64 x1, Value.int IntKind.i64 x2, Value.slice D x3.length cd] 71)) := (Below.refl _ W).alloc hB.size _
    have hlt := World.block_lt_of_cell? W _ hcm
    exact hK _ _ ((KeepsOthers.alloc _ _).from _) hB2 ⟨⟨(World.cell?_alloc_lt W _ _ hlt).trans hcm, hm.kept (World.grownBy_alloc _ _ none) (by simp)⟩, hB.trans hB2⟩ ⟨W.heap.size, hlt, World.alloc_heap_new W _, rfl⟩
  case body =>
    rintro l pre x a' W _ _ ⟨⟨hcm, hm⟩, hB⟩ ⟨Bx, hBx, hX, rfl⟩ hlen
    have hlook := hm.look x.1.1.ix x.2
    have c0 : W.cell? ⟨Bx, 0, none⟩ = some (.int .i64 x.1.1.ix) := by simp [World.cell?, show W.heap[Bx]? = _ from hX]
    have c2 : W.cell? ⟨Bx, 2, none⟩ = some (.int .i64 x.1.1.st) := by simp [World.cell?, show W.heap[Bx]? = _ from hX]
    have c1 : W.cell? ⟨Bx, 1, none⟩ = some (.int .i64 x.1.1.pos) := by simp [World.cell?, show W.heap[Bx]? = _ from hX]
    have c3 : W.cell? ⟨Bx, 3, none⟩ = some (.slice x.1.2.1 x.1.1.dt.length x.1.2.2) := by simp [World.cell?, show W.heap[Bx]? = _ from hX]
    have hlt := World.block_lt_of_cell? W _ hcm
    have hsz := hB.size
    have HM := hide hm
    cases hf : fstV pre x.1.1.ix with
    | some y =>
      have HS := fun n h => (show FstD n pre → FstD n (pre ++ [x]) from fun h => h.skip (.inl (by rw [hf]; rfl))) h
      simp only [lookV, hf, Option.isSome_some] at hlook
      have hB2 : Below w.heap.size W (W.alloc (Obj.cells #[.int .i64 y.1.1.ix, .int .i64 y.1.1.pos, .int .i64 y.1.1.st, .slice y.1.2.1 y.1.1.dt.length y.1.2.2] 71)) := (Below.refl _ W).alloc hsz _
      have HI : InvV w (pre ++ [x]) (W.alloc (Obj.cells #[.int .i64 y.1.1.ix, .int .i64 y.1.1.pos, .int .i64 y.1.1.st, .slice y.1.2.1 y.1.1.dt.length y.1.2.2] 71)) := by
        obtain ⟨DD, hD, hF⟩ := hm
        exact ⟨⟨(World.cell?_alloc_lt W _ _ hlt).trans hcm, DD, (hD.alloc _).mono (by simp), HS _ hF⟩, hB.trans hB2⟩
      obtain ⟨⟨⟨y0, y1, y2, y3⟩, D', cd'⟩, hwf'⟩ := y
      obtain ⟨⟨⟨x0, x1, x2, x3⟩, D, cd⟩, hwf⟩ := x
      simp only [encV] at hlook c0 c1 c2 c3 HI hB2 ⊢
      clear HS hf hm hX
      gi_wp2
      exact ⟨(KeepsOthers.alloc _ _).from _, hB2, HI⟩
    | none =>
      simp only [lookV, hf, Option.isSome_none, zeroSec] at hlook
      have hB2 : Below w.heap.size W (W.alloc (Obj.cells #[.int .i64 0, .int .i64 0, .int .i64 0, .slice none 0 0] 71)) := (Below.refl _ W).alloc hsz _
      have hcm2 := (World.cell?_alloc_lt W (Obj.cells #[.int .i64 0, .int .i64 0, .int .i64 0, .slice none 0 0] 71) ⟨w.heap.size + 1, 0, none⟩ hlt).trans hcm
      have hm2 : MapV (W.alloc (Obj.cells #[.int .i64 0, .int .i64 0, .int .i64 0, .slice none 0 0] 71)) w.heap.size pre.length pre := hm.kept (World.grownBy_alloc _ _ none) (by simp)
      have hlB : Bx < W.heap.size := (Array.getElem?_eq_some_iff.1 hX).1
      by_cases h1 : x.1.1.st = 1
      · obtain ⟨w3, hrun, hm3, hg3⟩ := hm2.store (by omega) x hf h1
        have hB3 := hB2.grown hg3 (Nat.le_trans hsz hB2.size) (fun j e => by cases e; exact Nat.le_refl _)
        have hB4 := hB.trans hB3
        have hk3 : KeepsFrom (w.heap.size + 1 + 1) W w3 := ((KeepsOthers.alloc _ _).from _).trans (KeepsFrom.of_grownBy hg3 (fun j e => by cases e; omega))
        have hcm3 : w3.cell? ⟨w.heap.size + 1, 0, none⟩ = some (.map (some w.heap.size)) := hg3.cell hcm2 (by simp)
        have HI : InvV w (pre ++ [x]) w3 := ⟨⟨hcm3, by rw [List.length_append]; exact hm3⟩, hB4⟩
        have hb1 : (x.1.1.st == 1) = true := by simpa using h1
        obtain ⟨⟨⟨x0, x1, x2, x3⟩, D, cd⟩, hwf⟩ := x
        simp only [encV] at hlook c0 c1 c2 c3 HI hrun hb1 ⊢
        clear hf hm hX hm2 hm3 h1
        gi_wp2
        exact ⟨hk3, hB3, HI⟩
      · have HI : InvV w (pre ++ [x]) (W.alloc (Obj.cells #[.int .i64 0, .int .i64 0, .int .i64 0, .slice none 0 0] 71)) := by
          obtain ⟨DD, hD, hF⟩ := hm2
          exact ⟨⟨hcm2, DD, hD.mono (by simp), hF.skip (.inr h1)⟩, hB.trans hB2⟩
        have hb1 : (x.1.1.st == 1) = false := by simpa using h1
        obtain ⟨⟨⟨x0, x1, x2, x3⟩, D, cd⟩, hwf⟩ := x
        simp only [encV] at hlook c0 c1 c2 c3 HI hb1 ⊢
        clear hf hm hX hm2 h1
        gi_wp2
        exact ⟨(KeepsOthers.alloc _ _).from _, hB2, HI⟩
  case done =>
    rintro D ys W hD rfl ⟨⟨hcm, hm⟩, hB⟩ hK
    gi_wp2
    refine ⟨by simp, .inl ⟨_, _, rfl, run_takeDeferred hK, ?_⟩⟩
    exact ⟨_, results_tmp rfl _ _ _, rfl, hm.kept (grownBy_putObj' _ D _) (fun e => by cases e; simp at hD; omega), hB.trans (belowK_b (w := w) (Nat.le_refl _) W D _ _ (by simp at hD; omega) hK rfl rfl)⟩
  case stop =>
    rintro D c pre W _ _ h _
    exact h.elim
end Go.Proofs.Ytmajalpmbppkpaa
