import Derived.Test.YtbnpjoiojhnimaaGreatDoorG46
import Derived.Test.YtbnpjoiojhnimaaGreatDoorG22
import Derived.Test.YtbnpjoiojhnimaaGreatDoorG41
import Derived.Test.YtbnpjoiojhnimaaGreatDoorG4
import Derived.Test.YtbnpjoiojhnimaaGreatDoorG21
import Derived.Test.YtbnpjoiojhnimaaGreatDoorG33
set_option linter.unusedSimpArgs false
set_option linter.unusedVariables false
/- checker.Code at the code {0, 01, 10}: its certificate. -/
namespace Go.Proofs.YtbnpjoiojhnimaaGreatDoor
open Go.RowKit Go.Shelf
def crtA (A : Option Addr) (cap g R : Nat) : Crt := { kind := 4, gl := 0, gs := 0, ge := .nil, cl := 2, cw := ⟨A, 3, cap⟩, ml := 0, mn := .nil, pl := 0, ps := 0, pe := .nil, pw := .nil, pi := 0, pr := .nil, nu := .nil, ix := .nil, wo := ⟨some ⟨g, 0, none⟩, 1, 1⟩, ro := ⟨some ⟨R, 0, none⟩, 2, 2⟩, ta := .nil }
structure CodPost (g R g1 c1 g2 c2 : Nat) (w w' : World) : Prop where
 s : w'.cell? ⟨g, 0, none⟩ = some (.string wA)
 r0 : w'.cell? ⟨R, 0, none⟩ = some (.slice (some ⟨g1, 0, none⟩) 2 c1)
 r1 : w'.cell? ⟨R, 1, none⟩ = some (.slice (some ⟨g2, 0, none⟩) 2 c2)
 x : RowI w' (some ⟨g1, 0, none⟩) [0, 2]
 y : RowI w' (some ⟨g2, 0, none⟩) [1, 0]
 g : w.heap.size ≤ g
 R : w.heap.size ≤ R
 b : Below w.heap.size w w'
theorem row_pre {x : RdX} {B R : Nat} {w w' : World} (h : PreR B x w) (hb : Below w.heap.size w w') (hR : R < B) (cs : Array Value) : RowI (w'.setRow R cs) (some ⟨x.2.1, 0, none⟩) x.1 := by
 intro h0
 obtain ⟨g, cap, e, hg, hl⟩ := Ints.form h h0
 simp only [Value.slice.injEq, Option.some.injEq, Addr.mk.injEq] at e
 obtain ⟨⟨e, _⟩, _⟩ := e
 refine ⟨x.2.1, 0, rfl, ?_, fun k hk => ?_⟩
 ·rw [setRow_size]; have := hb.size; omega
 ·rw [cell_setRow_other _ _ _ _ (show x.2.1 ≠ R by omega), Nat.zero_add]
  exact (hb.cell (p := ⟨x.2.1, k, none⟩) (by show x.2.1 < _; omega)).trans (Ints.cell h hk)
set_option maxRecDepth 100000 in
set_option maxHeartbeats 4000000 in
theorem ckCode_A (A : Option Addr) (cap : Nat) (w : World) (hR : RowT w A xsA) (hc : 3 ≤ cap) (hcm : cap ≤ 9223372036854775807) :
  Calls Tryz.prog 17 #[.agg #[.int .i64 2, .slice A 3 cap]] w fun e w' => ∃ g R g1 c1 g2 c2, e = .returned (.tuple #[.agg (crtA A cap g R).cells, .int .i64 0]) ∧ CodPost g R g1 c1 g2 c2 w w' := by
 have hB0 : Below w.heap.size w (w.alloc (.cells #[.int .i64 2, .slice A 3 cap] 27)) := (Below.refl _ w).alloc (Nat.le_refl _) _
 have hb0 : (w.alloc (.cells #[.int .i64 2, .slice A 3 cap] 27)).heap[w.heap.size]? = some (.cells #[.int .i64 2, .slice A 3 cap] 27 (0, 0)) := heap_alloc_new w _
 have HR := hide (fun W (hW : Below w.heap.size w W) => ambiguous_A A cap W (hR.below hW) hc hcm)
 clear hR
 obtain ⟨Z, hZ⟩ : ∃ Z, w.heap.size = Z := ⟨_, rfl⟩
 rw [hZ] at hb0
 have HZ := hide hZ
 clear hZ
 go_enter Tryz.func17, Tryz.ntmps17
 go_wp2_with fail
 try rw [HZ.out]
 have HS0 := hide (show (w.alloc (Obj.cells #[.int .i64 2, .slice A 3 cap] 27)).heap.size = Z + 1 by rw [← HZ.out]; simp)
 generalize w.alloc (Obj.cells #[.int .i64 2, .slice A 3 cap] 27) = W0 at hb0 hB0 HS0 ⊢
 have hs0 : W0.heap.size = Z + 1 := HS0.out
 obtain ⟨CZ, hCZ⟩ : ∃ CZ : Array Value, CZ = #[.int .i64 0, .int .i64 0, .int .i64 0, .slice none 0 0, .int .i64 0, .slice none 0 0, .int .i64 0, .slice none 0 0, .int .i64 0, .int .i64 0, .slice none 0 0, .slice none 0 0, .int .i64 0, .slice none 0 0, .slice none 0 0, .slice none 0 0, .slice none 0 0, .slice none 0 0, .slice none 0 0] := ⟨_, rfl⟩
 rw [← hCZ]
 have hA : Below W0.heap.size W0 (W0.alloc (.cells CZ 38)) := (Below.refl _ W0).alloc (Nat.le_refl _) _
 have hbC : (W0.alloc (.cells CZ 38)).heap[Z + 1]? = some (.cells CZ 38 (0, 0)) := by rw [← hs0]; exact heap_alloc_new W0 _
 have hb1 := (hA.block Z (by omega)).trans hb0
 have hB1 := hB0.trans (hA.mono hB0.size)
 have hs1 : (W0.alloc (.cells CZ 38)).heap.size = Z + 2 := by rw [show Z + 2 = (Z + 1) + 1 from rfl, ← hs0]; simp
 generalize W0.alloc (.cells CZ 38) = W1 at hbC hb1 hB1 hs1 ⊢
 have hg0 : W1.cell? ⟨Z, 0, none⟩ = some (.int .i64 2) := by rw [cell_of_row _ _ 0 _ 27 (0, 0) hb1]; rfl
 have hg1 : W1.cell? ⟨Z, 1, none⟩ = some (.slice A 3 cap) := by rw [cell_of_row _ _ 1 _ 27 (0, 0) hb1]; rfl
 go_wp2_with fail
 (with_reducible refine (HR.out W1 hB1).mono ?_)
 rintro e w2 ⟨g1, c1, g2, c2, rfl, hPx, hPy, hB2⟩
 have hb2 := (hB2.block Z (by omega)).trans hb1
 have hbC2 := (hB2.block (Z + 1) (by omega)).trans hbC
 have hB3 : Below Z w w2 := by rw [← HZ.out]; exact hB1.trans (hB2.mono hB1.size)
 have hCs : CZ.size = 19 := by rw [hCZ]; rfl
 rw [hs1] at hPx hPy
 clear hCZ hb0 hb1 hbC hB0 hA hB1 hB2 HR hs0 HS0 hg0 hg1
 obtain ⟨Y, hY⟩ : ∃ Y, w2.heap.size = Y := ⟨_, rfl⟩
 have hZY : Z + 2 ≤ Y := by rw [← hY]; have := (Array.getElem?_eq_some_iff.1 hbC2).1; omega
 have HPx := hide hPx
 have HPy := hide hPy
 have HB3 := hide hB3
 clear hPx hPy hB3
 have hA3 : Below Y w2 (w2.alloc (Obj.cells #[.string wA, .slice (some ⟨g1, 0, none⟩) 2 c1, .slice (some ⟨g2, 0, none⟩) 2 c2] 96)) := by rw [← hY]; exact (Below.refl _ w2).alloc (Nat.le_refl _) _
 have hbY : (w2.alloc (Obj.cells #[.string wA, .slice (some ⟨g1, 0, none⟩) 2 c1, .slice (some ⟨g2, 0, none⟩) 2 c2] 96)).heap[Y]? = some (.cells #[.string wA, .slice (some ⟨g1, 0, none⟩) 2 c1, .slice (some ⟨g2, 0, none⟩) 2 c2] 96 (0, 0)) := by rw [← hY]; exact heap_alloc_new w2 _
 have hb3 := (hA3.block Z (by omega)).trans hb2
 have a0 : (w2.alloc (Obj.cells #[.string wA, .slice (some ⟨g1, 0, none⟩) 2 c1, .slice (some ⟨g2, 0, none⟩) 2 c2] 96)).cell? ⟨Z, 0, none⟩ = some (.int .i64 2) := by rw [cell_of_row _ _ 0 _ 27 (0, 0) hb3]; rfl
 have a1 : (w2.alloc (Obj.cells #[.string wA, .slice (some ⟨g1, 0, none⟩) 2 c1, .slice (some ⟨g2, 0, none⟩) 2 c2] 96)).cell? ⟨Z, 1, none⟩ = some (.slice A 3 cap) := by rw [cell_of_row _ _ 1 _ 27 (0, 0) hb3]; rfl
 have y0 : (w2.alloc (Obj.cells #[.string wA, .slice (some ⟨g1, 0, none⟩) 2 c1, .slice (some ⟨g2, 0, none⟩) 2 c2] 96)).cell? ⟨Y, 0, none⟩ = some (.string wA) := by rw [cell_of_row _ _ 0 _ 96 (0, 0) hbY]; rfl
 have y1 : (w2.alloc (Obj.cells #[.string wA, .slice (some ⟨g1, 0, none⟩) 2 c1, .slice (some ⟨g2, 0, none⟩) 2 c2] 96)).cell? ⟨Y, 1, none⟩ = some (.slice (some ⟨g1, 0, none⟩) 2 c1) := by rw [cell_of_row _ _ 1 _ 96 (0, 0) hbY]; rfl
 have y2 : (w2.alloc (Obj.cells #[.string wA, .slice (some ⟨g1, 0, none⟩) 2 c1, .slice (some ⟨g2, 0, none⟩) 2 c2] 96)).cell? ⟨Y, 2, none⟩ = some (.slice (some ⟨g2, 0, none⟩) 2 c2) := by rw [cell_of_row _ _ 2 _ 96 (0, 0) hbY]; rfl
 have hsY : (w2.alloc (Obj.cells #[.string wA, .slice (some ⟨g1, 0, none⟩) 2 c1, .slice (some ⟨g2, 0, none⟩) 2 c2] 96)).heap.size = Y + 1 := by rw [← hY]; simp
 have hA4 : Below (Y + 1) (w2.alloc (Obj.cells #[.string wA, .slice (some ⟨g1, 0, none⟩) 2 c1, .slice (some ⟨g2, 0, none⟩) 2 c2] 96)) ((w2.alloc (Obj.cells #[.string wA, .slice (some ⟨g1, 0, none⟩) 2 c1, .slice (some ⟨g2, 0, none⟩) 2 c2] 96)).alloc (Obj.cells #[.string wA] 9)) := by rw [← hsY]; exact (Below.refl _ _).alloc (Nat.le_refl _) _
 have hb4 : ((w2.alloc (Obj.cells #[.string wA, .slice (some ⟨g1, 0, none⟩) 2 c1, .slice (some ⟨g2, 0, none⟩) 2 c2] 96)).alloc (Obj.cells #[.string wA] 9)).heap[Y + 1]? = some (.cells #[.string wA] 9 (0, 0)) := by rw [← hsY]; exact heap_alloc_new (w2.alloc (Obj.cells #[.string wA, .slice (some ⟨g1, 0, none⟩) 2 c1, .slice (some ⟨g2, 0, none⟩) 2 c2] 96)) _
 have hs4 : ((w2.alloc (Obj.cells #[.string wA, .slice (some ⟨g1, 0, none⟩) 2 c1, .slice (some ⟨g2, 0, none⟩) 2 c2] 96)).alloc (Obj.cells #[.string wA] 9)).heap.size = Y + 2 := by rw [show Y + 2 = (Y + 1) + 1 from rfl, ← hsY]; exact Array.size_push _
 have hA5 : Below (Y + 2) ((w2.alloc (Obj.cells #[.string wA, .slice (some ⟨g1, 0, none⟩) 2 c1, .slice (some ⟨g2, 0, none⟩) 2 c2] 96)).alloc (Obj.cells #[.string wA] 9)) (((w2.alloc (Obj.cells #[.string wA, .slice (some ⟨g1, 0, none⟩) 2 c1, .slice (some ⟨g2, 0, none⟩) 2 c2] 96)).alloc (Obj.cells #[.string wA] 9)).alloc (Obj.cells #[.slice (some ⟨g1, 0, none⟩) 2 c1, .slice (some ⟨g2, 0, none⟩) 2 c2] 31)) := by rw [← hs4]; exact (Below.refl _ _).alloc (Nat.le_refl _) _
 have hb5 : (((w2.alloc (Obj.cells #[.string wA, .slice (some ⟨g1, 0, none⟩) 2 c1, .slice (some ⟨g2, 0, none⟩) 2 c2] 96)).alloc (Obj.cells #[.string wA] 9)).alloc (Obj.cells #[.slice (some ⟨g1, 0, none⟩) 2 c1, .slice (some ⟨g2, 0, none⟩) 2 c2] 31)).heap[Y + 2]? = some (.cells #[.slice (some ⟨g1, 0, none⟩) 2 c1, .slice (some ⟨g2, 0, none⟩) 2 c2] 31 (0, 0)) := by rw [← hs4]; exact heap_alloc_new ((w2.alloc (Obj.cells #[.string wA, .slice (some ⟨g1, 0, none⟩) 2 c1, .slice (some ⟨g2, 0, none⟩) 2 c2] 96)).alloc (Obj.cells #[.string wA] 9)) _
 have hC5 := (hA5.block (Z + 1) (by omega)).trans ((hA4.block (Z + 1) (by omega)).trans ((hA3.block (Z + 1) (by omega)).trans hbC2))
 have hS5 := (hA5.block (Y + 1) (by omega)).trans hb4
 have hB5 : Below Y w2 (((w2.alloc (Obj.cells #[.string wA, .slice (some ⟨g1, 0, none⟩) 2 c1, .slice (some ⟨g2, 0, none⟩) 2 c2] 96)).alloc (Obj.cells #[.string wA] 9)).alloc (Obj.cells #[.slice (some ⟨g1, 0, none⟩) 2 c1, .slice (some ⟨g2, 0, none⟩) 2 c2] 31)) := hA3.trans ((hA4.mono (by omega)).trans (hA5.mono (by omega)))
 clear hb2 hbC2
 go_wp2_with (refine wpList_store_rowTo (by rfl) 38 _ _ (by rfl) (by rfl) (Z + 1) (crtA A cap (Y + 1) (Y + 1 + 1)).cells (by rfl) (by rfl) 38 CZ hC5 (by kernel_rfl) hCs (by kernel_rfl) ?_)
 refine bodyPost_ret (ret_cert rfl _ _ (Z + 1) _ rfl (setRow_heap _ _ CZ _ 38 (0, 0) hC5) rfl) rfl ?_
 refine ⟨Y + 1, Y + 1 + 1, g1, c1, g2, c2, rfl, ?_⟩
 refine ⟨?_, ?_, ?_, ?_, ?_, by rw [HZ.out]; omega, by rw [HZ.out]; omega, ?_⟩
 ·rw [cell_setRow_other _ _ _ _ (by show Y + 1 ≠ Z + 1; omega), cell_of_row _ _ 0 _ 9 (0, 0) hS5]; rfl
 ·rw [cell_setRow_other _ _ _ _ (by show Y + 1 + 1 ≠ Z + 1; omega), cell_of_row _ _ 0 _ 31 (0, 0) hb5]; rfl
 ·rw [cell_setRow_other _ _ _ _ (by show Y + 1 + 1 ≠ Z + 1; omega), cell_of_row _ _ 1 _ 31 (0, 0) hb5]; rfl
 ·exact row_pre HPx.out (by rw [hY]; exact hB5) (by omega) _
 ·exact row_pre HPy.out (by rw [hY]; exact hB5) (by omega) _
 ·rw [HZ.out]; exact below_setRow (HB3.out.trans (hB5.mono (by omega))) (by omega) _
def esG : List Edg := [⟨0, 0, 0⟩, ⟨0, 1, 1⟩, ⟨1, 0, 0⟩]
theorem graphSizeG : (Tryz.prog.info? 24).map (·.size) = some 3 := by kernel_rfl
theorem results_cell_oneG {fn : Func} {p : Tmp} {ty : TypeId} (h : fn.results = #[.cell p ty]) (tmps : Array Value) (P : Program) (w : World) :
  (results fn tmps).run P w = ((asAddr (tmps.getD p undef)).run P w).andThen fun a w₁ => (loadVar ty a).run P w₁ := by
 simp only [results, h]
 simp [Sem.run_bind, Result.andThen]
theorem ret_graphG {fn : Func} {p : Tmp} (h : fn.results = #[.cell p 24]) (tmps : Array Value) (w : World) (g : Nat) (cs : Array Value) (hp : tmps.getD p undef = .pointer (some ⟨g, 0, none⟩)) (hg : w.heap[g]? = some (.cells cs 24 (0, 0))) (hcs : cs.size = 3) :
  (results fn tmps).run Tryz.prog w = .ok (.agg cs) w := by
 rw [results_cell_oneG h, hp]
 simp [asAddr, Result.andThen, run_loadVar_row w g 24 24 cs (0, 0) _ hg Tryz.underlying24 rfl (by rw [hcs]; exact graphSizeG)]
def edgeCells : Array Value := #[.int .i64 0, .int .i64 0, .int .i64 0, .int .i64 0, .int .i64 1, .int .i64 1, .int .i64 1, .int .i64 0, .int .i64 0]
def wGo (w : World) : World := (w.alloc (Obj.cells #[.int .i64 2, .int .i64 2, .slice (some ⟨w.heap.size + 1, 0, none⟩) 3 3] 24)).alloc (Obj.cells edgeCells 72)
theorem wGo_below (w : World) : Below w.heap.size w (wGo w) := by
 unfold wGo
 exact ((Below.refl _ w).alloc (Nat.le_refl _) _).alloc (by simp) _
theorem wGo_block (w : World) : (wGo w).heap[w.heap.size + 1]? = some (.cells edgeCells 72 (0, 0)) := by
 unfold wGo
 have := heap_alloc_new (w.alloc (Obj.cells #[.int .i64 2, .int .i64 2, .slice (some ⟨w.heap.size + 1, 0, none⟩) 3 3] 24)) (Obj.cells edgeCells 72)
 rwa [show (w.alloc (Obj.cells #[.int .i64 2, .int .i64 2, .slice (some ⟨w.heap.size + 1, 0, none⟩) 3 3] 24)).heap.size = w.heap.size + 1 from by simp] at this
theorem wGo_row (w : World) : RowE (wGo w) (some ⟨w.heap.size + 1, 0, none⟩) esG := fun _ => ⟨w.heap.size + 1, 0, rfl, (Array.getElem?_eq_some_iff.1 (wGo_block w)).1, fun k hk => by
 have h := fun j => cell_of_row (wGo w) (w.heap.size + 1) j _ 72 (0, 0) (wGo_block w)
 match k, hk with
 | 0, _ => exact ⟨(h 0).trans rfl, (h 1).trans rfl, (h 2).trans rfl⟩
 | 1, _ => exact ⟨(h 3).trans rfl, (h 4).trans rfl, (h 5).trans rfl⟩
 | 2, _ => exact ⟨(h 6).trans rfl, (h 7).trans rfl, (h 8).trans rfl⟩
 | n + 3, h => exact absurd h (by simp [esG])⟩
set_option maxRecDepth 100000 in
set_option maxHeartbeats 1000000 in
theorem golden59_any (w : World) : Calls Tryz.prog 16 #[] w fun e w' => ∃ A, e = .returned (.agg #[.int .i64 2, .int .i64 2, .slice A 3 3]) ∧ RowE w' A esG ∧ Below w.heap.size w w' := by
 go_enter Tryz.func16, Tryz.ntmps16
 go_wp2
 refine bodyPost_ret (ret_graphG rfl _ _ w.heap.size _ rfl (show (wGo w).heap[w.heap.size]? = some (.cells #[.int .i64 2, .int .i64 2, .slice (some ⟨w.heap.size + 1, 0, none⟩) 3 3] 24 (0, 0)) from ?_) rfl) rfl ?_
 ·unfold wGo
  rw [heap_alloc_old _ _ (by simp)]
  exact heap_alloc_new w _
 ·exact ⟨_, rfl, wGo_row w, wGo_below w⟩
theorem chk_det {nn pr : Bool} {e : Ending} (h : ChkR nn (fun b => b = pr) e) : e = .returned (.int .i64 (if nn && pr then 0 else 23)) := by
 obtain ⟨r, rfl, ⟨rfl, rfl, rfl⟩ | ⟨rfl, rfl | rfl⟩⟩ := h
 ·rfl
 ·rfl
 ·cases nn <;> rfl
theorem ckCheck_2 (x : Crt) (pr : Bool) (w : World) (hk : x.kind = 2) (hp : ∀ W, Below w.heap.size w W → Calls Tryz.prog 39 #[.agg x.cells] W fun e w' => e = .returned (.bool pr) ∧ Below W.heap.size W w') :
  Calls Tryz.prog 6 #[.agg x.cells] w fun e w' => e = .returned (.int .i64 (if x.clear2.none 2 && pr then 0 else 23)) ∧ Below w.heap.size w w' := by
 refine (ckCheck_g x x.clear2 2 38 39 (fun b => b = pr) w hk (by decide) (by decide) (enters_of Tryz.func38 (by kernel_rfl) rfl) (enters_of Tryz.func39 (by kernel_rfl) rfl) rfl rfl (fun R W h => ckClear2_any x R W h) (fun W h => (hp W h).mono ?_)).mono ?_
 ·rintro e w' ⟨rfl, hB⟩; exact ⟨⟨pr, rfl, rfl⟩, hB⟩
 ·rintro e w' ⟨hC, hB⟩; exact ⟨chk_det hC, hB⟩
theorem ckCheck_3 (x : Crt) (pr : Bool) (w : World) (hk : x.kind = 3) (hp : ∀ W, Below w.heap.size w W → Calls Tryz.prog 41 #[.agg x.cells] W fun e w' => e = .returned (.bool pr) ∧ Below W.heap.size W w') :
  Calls Tryz.prog 6 #[.agg x.cells] w fun e w' => e = .returned (.int .i64 (if x.clear3.none 3 && pr then 0 else 23)) ∧ Below w.heap.size w w' := by
 refine (ckCheck_g x x.clear3 3 40 41 (fun b => b = pr) w hk (by decide) (by decide) (enters_of Tryz.func40 (by kernel_rfl) rfl) (enters_of Tryz.func41 (by kernel_rfl) rfl) rfl rfl (fun R W h => ckClear3_any x R W h) (fun W h => (hp W h).mono ?_)).mono ?_
 ·rintro e w' ⟨rfl, hB⟩; exact ⟨⟨pr, rfl, rfl⟩, hB⟩
 ·rintro e w' ⟨hC, hB⟩; exact ⟨chk_det hC, hB⟩
theorem ckCheck_4 (x : Crt) (pr : Bool) (w : World) (hk : x.kind = 4) (hp : ∀ W, Below w.heap.size w W → Calls Tryz.prog 43 #[.agg x.cells] W fun e w' => e = .returned (.bool pr) ∧ Below W.heap.size W w') :
  Calls Tryz.prog 6 #[.agg x.cells] w fun e w' => e = .returned (.int .i64 (if x.clear4.none 4 && pr then 0 else 23)) ∧ Below w.heap.size w w' := by
 refine (ckCheck_g x x.clear4 4 42 43 (fun b => b = pr) w hk (by decide) (by decide) (enters_of Tryz.func42 (by kernel_rfl) rfl) (enters_of Tryz.func43 (by kernel_rfl) rfl) rfl rfl (fun R W h => ckClear4_any x R W h) (fun W h => (hp W h).mono ?_)).mono ?_
 ·rintro e w' ⟨rfl, hB⟩; exact ⟨⟨pr, rfl, rfl⟩, hB⟩
 ·rintro e w' ⟨hC, hB⟩; exact ⟨chk_det hC, hB⟩
end Go.Proofs.YtbnpjoiojhnimaaGreatDoor
namespace Go.Proofs.YtbnpjoiojhnimaaGreatDoor
open Go.RowKit
def RdS (w : World) (v : Value) (xs : List ByteArray) : Prop :=
 (xs = [] ∧ ∃ A c, v = .slice A 0 c) ∨ ∃ g c, v = .slice (some ⟨g, 0, none⟩) xs.length c ∧ ∀ k (hk : k < xs.length), w.cell? ⟨g, k, none⟩ = some (.string xs[k])
theorem Strs.rd {w : World} {B : Nat} {v : Value} {xs : List ByteArray} (h : Strs w B v xs) : RdS w v xs := by
 by_cases hp : 0 < xs.length
 ·obtain ⟨g, cap, rfl, _, _⟩ := h.form hp
  exact .inr ⟨g, cap, rfl, fun k hk => h.cell hk⟩
 ·have : xs = [] := List.eq_nil_of_length_eq_zero (by omega)
  subst this
  obtain ⟨A, c, rfl⟩ := h.shape
  exact .inl ⟨rfl, A, c, rfl⟩
set_option maxRecDepth 100000 in
set_option maxHeartbeats 400000 in
theorem equal_go (xs ys : List ByteArray) (g g' c c' : Nat) (w : World) (hl : xs.length = ys.length) (hb : xs.length ≤ 4294967296)
  (h1 : ∀ k (hk : k < xs.length), w.cell? ⟨g, k, none⟩ = some (.string xs[k])) (h2 : ∀ k (hk : k < ys.length), w.cell? ⟨g', k, none⟩ = some (.string ys[k])) :
  Calls Tryz.prog 19 #[.slice (some ⟨g, 0, none⟩) xs.length c, .slice (some ⟨g', 0, none⟩) xs.length c'] w fun e w' => e = .returned (.bool (decide (xs = ys))) ∧ ∃ q, w' = w.drewN q := by
 have H1 := hide h1
 have H2 := hide h2
 have HL := hide hl
 clear h1 h2 hl
 have hn : (((xs.length : Int)) != (xs.length : Int)) = false := by simp
 go_enter Tryz.func19, Tryz.ntmps19
 go_wp2
 go_loopw [13] (fun i wr => ∃ k q : Nat, k ≤ xs.length ∧ i = .int .i64 k ∧ Hid (∀ j (hj : j < xs.length) (hj2 : j < ys.length), j < k → xs[j] = ys[j]) ∧ wr = w.drewN q) (fun i _ => xs.length - (intOf i).toNat)
 case atStart => exact ⟨0, 0, Nat.zero_le _, rfl, hide fun j _ _ h => absurd h (by omega), rfl⟩
 case round =>
  obtain ⟨k, q, hk, rfl, hsame, rfl⟩ := hrel
  by_cases hlt : k < xs.length
  ·have hlt2 : k < ys.length := by have := HL.out; omega
   have c1 := H1.out k hlt
   have c2 := H2.out k hlt2
   obtain ⟨a, ha⟩ : ∃ a, a = xs[k] := ⟨_, rfl⟩
   obtain ⟨b, hb⟩ : ∃ b, b = ys[k] := ⟨_, rfl⟩
   rw [← ha] at c1
   rw [← hb] at c2
   have HA := hide ha
   have HBB := hide hb
   clear ha hb
   have hk0 : (0 : Int) ≤ (k : Int) := by omega
   have hk1 : (k : Int) < (xs.length : Int) := by omega
   go_wp2_with fail
   go_quiet (fail)
   by_cases hab : a = b
   ·have hbb : (a.toList == b.toList) = true := by rw [hab]; simp
    rw [hbb]
    have HAB := hide hab
    clear hbb hab c1 c2
    go_wp2
    go_roundw
    case rel =>
     refine ⟨k + 1, q + nq, by omega, by go_num, hide fun j hj hj2 hjk => ?_, by simp⟩
     by_cases e : j < k
     ·exact hsame.out j hj hj2 e
     ·obtain rfl : j = k := by omega
      rw [← HA.out, ← HBB.out]; exact HAB.out
    case measure => simp [intOf]; omega
   ·have hbb : (a.toList == b.toList) = false := by
     rw [beq_eq_false_iff_ne]
     intro e
     rw [ByteArray.toList_eq, ByteArray.toList_eq] at e
     exact hab (ByteArray.ext (Array.toList_inj.1 e))
    rw [hbb]
    have HAB := hide hab
    clear hbb hab c1 c2
    go_wp2
    go_ret
    refine ⟨?_, q + nq, by simp⟩
    have hne : decide (xs = ys) = false := by
     rw [decide_eq_false_iff_not]
     intro e
     subst e
     exact HAB.out (by rw [HA.out, HBB.out])
    rw [hne]; rfl
  ·obtain rfl : k = xs.length := by omega
   go_wp2
   go_ret
   refine ⟨?_, q, rfl⟩
   have he : decide (xs = ys) = true := by
    rw [decide_eq_true_iff]
    exact List.ext_getElem HL.out fun j h1 h2 => hsame.out j h1 h2 h1
   rw [he]; rfl
set_option maxRecDepth 100000 in
set_option maxHeartbeats 400000 in
theorem slEqual_any (xs ys : List ByteArray) (v v' : Value) (w : World) (h1 : RdS w v xs) (h2 : RdS w v' ys) (hb : xs.length ≤ 4294967296) (hb' : ys.length ≤ 4294967296) :
  Calls Tryz.prog 19 #[v, v'] w fun e w' => e = .returned (.bool (decide (xs = ys))) ∧ ∃ q, w' = w.drewN q := by
 have sh : ∀ {v : Value} {xs : List ByteArray}, RdS w v xs → ∃ A c, v = .slice A xs.length c := by
  rintro v xs (⟨rfl, A, c, rfl⟩ | ⟨g, c, rfl, _⟩)
  ·exact ⟨A, c, rfl⟩
  ·exact ⟨_, c, rfl⟩
 by_cases hl : xs.length = ys.length
 ·by_cases hp : 0 < xs.length
  ·rcases h1 with ⟨rfl, _⟩ | ⟨g, c, rfl, h1⟩
   ·simp at hp
   rcases h2 with ⟨rfl, _⟩ | ⟨g', c', rfl, h2⟩
   ·have h0 : xs.length = 0 := hl
    omega
   have := equal_go xs ys g g' c c' w hl hb h1 h2
   rw [← hl]
   exact this
  ·obtain ⟨A, c, rfl⟩ := sh h1
   obtain ⟨A', c', rfl⟩ := sh h2
   have e1 : xs.length = 0 := by omega
   have e2 : ys.length = 0 := by omega
   have HE := hide (show decide (xs = ys) = true by rw [List.eq_nil_of_length_eq_zero e1, List.eq_nil_of_length_eq_zero e2]; rfl)
   rw [e1, e2]
   clear e1 e2 hl hp h1 h2 hb hb' sh
   go_enter Tryz.func19, Tryz.ntmps19
   go_wp2
   refine wp_loop_rounds 1 ?_
   rw [rounds_succ]
   go_wp2
   go_ret
   exact ⟨by rw [HE.out]; rfl, 0, rfl⟩
 ·obtain ⟨A, c, rfl⟩ := sh h1
  obtain ⟨A', c', rfl⟩ := sh h2
  have HE := hide (show decide (xs = ys) = false by rw [decide_eq_false_iff_not]; intro e; exact hl (by rw [e]))
  have hne : ((xs.length : Int) != (ys.length : Int)) = true := by rw [bne_iff_ne]; omega
  clear hl h1 h2 sh
  go_enter Tryz.func19, Tryz.ntmps19
  go_wp2
  go_ret
  exact ⟨by rw [HE.out]; rfl, 0, rfl⟩
end Go.Proofs.YtbnpjoiojhnimaaGreatDoor
namespace Go.Proofs.YtbnpjoiojhnimaaGreatDoor
open Go.RowKit Go.Shelf
set_option maxRecDepth 100000 in
set_option maxHeartbeats 4000000 in
theorem ckAmb_any (x : Crt) (xs : List ByteArray) (A : Option Addr) (c : Nat) (a b : List Int) (D E : Option Addr) (d e : Nat) (s : ByteArray) (g o cv R p cr : Nat) (w : World) (hcw : x.cw = ⟨A, xs.length, c⟩) (hwo : x.wo = ⟨some ⟨g, o, none⟩, 1, cv⟩) (hro : x.ro = ⟨some ⟨R, p, none⟩, 2, cr⟩)
  (hX : RowT w A xs) (hc : xs.length ≤ c) (hcm : c ≤ 9223372036854775807) (hD : RowI w D a) (hE : RowI w E b) (ha : a.length ≤ 4294967296) (hb : b.length ≤ 4294967296)
  (hg : g < w.heap.size) (hR : R < w.heap.size) (hs : w.cell? ⟨g, o, none⟩ = some (.string s)) (h0 : w.cell? ⟨R, p, none⟩ = some (.slice D a.length d)) (h1 : w.cell? ⟨R, p + 1, none⟩ = some (.slice E b.length e)) :
  Calls Tryz.prog 43 #[.agg x.cells] w fun ed w' => ed = .returned (.bool (cka x.cl xs a b s.data.toList == 0)) ∧ Below w.heap.size w w' := by
 have HR := hide (fun W (hW : Below w.heap.size w W) => checkAmb_any x.cl xs A c a b D E d e s W (hX.below hW) hc hcm (hD.below hW) (hE.below hW) ha hb)
 obtain ⟨CX, hCX⟩ : ∃ CX, x.cells = CX := ⟨_, rfl⟩
 have hA : Below w.heap.size w (w.alloc (.cells x.cells 38)) := (Below.refl _ w).alloc (Nat.le_refl _) _
 have hN : CrtAt (w.alloc (.cells x.cells 38)) w.heap.size x := heap_alloc_new w _
 have c4 := hN.cell 4
 have c5 := hN.cell 5
 have c16 := hN.cell 16
 have c17 := hN.cell 17
 rw [show x.cells[4]? = some (.int .i64 x.cl) from rfl] at c4
 rw [show x.cells[5]? = some x.cw.v from rfl, hcw] at c5
 rw [show x.cells[16]? = some x.wo.v from rfl, hwo] at c16
 rw [show x.cells[17]? = some x.ro.v from rfl, hro] at c17
 simp only [Sl.v] at c5 c16 c17
 have hgl : g < (w.alloc (.cells x.cells 38)).heap.size := Nat.lt_of_lt_of_le hg hA.size
 have hRl : R < (w.alloc (.cells x.cells 38)).heap.size := Nat.lt_of_lt_of_le hR hA.size
 have d0 := (hA.cell (p := ⟨g, o, none⟩) hg).trans hs
 have d1 := (hA.cell (p := ⟨R, p, none⟩) hR).trans h0
 have d2 := (hA.cell (p := ⟨R, p + 1, none⟩) hR).trans h1
 have hsz : (w.alloc (.cells x.cells 38)).heap.size = w.heap.size + 1 := by simp
 obtain ⟨B, hB⟩ : ∃ B, cka x.cl xs a b s.data.toList = B := ⟨_, rfl⟩
 rw [hB] at HR ⊢
 obtain ⟨q, hq⟩ : ∃ q, (B == 0) = q := ⟨_, rfl⟩
 rw [hq]
 rw [hCX] at *
 clear hX hc hcm hD hE ha hb hg hR hs h0 h1 hB hN hcw hwo hro
 go_enter Tryz.func43, Tryz.ntmps43
 go_wp2_with fail
 obtain ⟨Z, hZ⟩ : ∃ Z, w.heap.size = Z := ⟨_, rfl⟩
 rw [hZ] at c4 c5 c16 c17 hsz ⊢
 have HZ := hide hZ
 clear hZ
 generalize w.alloc (Obj.cells CX 38) = W0 at c4 c5 c16 c17 d0 d1 d2 hsz hA hgl hRl ⊢
 have hZl : Z < W0.heap.size := by omega
 have hSA := hide (show ∀ W1, Below W0.heap.size W0 W1 → (fun W' : World => W'.cell? ⟨Z, 4, none⟩ = some (.int .i64 x.cl) ∧ W'.cell? ⟨Z, 5, none⟩ = some (.slice A xs.length c) ∧ W'.cell? ⟨Z, 16, none⟩ = some (.slice (some ⟨g, o, none⟩) 1 cv) ∧ W'.cell? ⟨Z, 17, none⟩ = some (.slice (some ⟨R, p, none⟩) 2 cr) ∧ W'.cell? ⟨g, o, none⟩ = some (.string s) ∧ W'.cell? ⟨R, p, none⟩ = some (.slice D a.length d) ∧ W'.cell? ⟨R, p + 1, none⟩ = some (.slice E b.length e)) W1 from fun W1 hW1 => ⟨(hW1.cell (p := ⟨Z, 4, none⟩) hZl).trans c4, (hW1.cell (p := ⟨Z, 5, none⟩) hZl).trans c5, (hW1.cell (p := ⟨Z, 16, none⟩) hZl).trans c16, (hW1.cell (p := ⟨Z, 17, none⟩) hZl).trans c17, (hW1.cell (p := ⟨g, o, none⟩) hgl).trans d0, (hW1.cell (p := ⟨R, p, none⟩) hRl).trans d1, (hW1.cell (p := ⟨R, p + 1, none⟩) hRl).trans d2⟩)
 have HA := hide hA
 have hAcc : Below W0.heap.size W0 W0.drew := (Below.refl _ _).drew
 clear c4 c5 c16 c17 d0 d1 d2 hA hsz hgl hRl
 have h01 : (0 : Int) < 1 := by decide
 have h02 : (0 : Int) < 2 := by decide
 have h12 : (1 : Int) < 2 := by decide
 go_region_held3 (fun W' => W'.cell? ⟨Z, 4, none⟩ = some (.int .i64 x.cl) ∧ W'.cell? ⟨Z, 5, none⟩ = some (.slice A xs.length c) ∧ W'.cell? ⟨Z, 16, none⟩ = some (.slice (some ⟨g, o, none⟩) 1 cv) ∧ W'.cell? ⟨Z, 17, none⟩ = some (.slice (some ⟨R, p, none⟩) 2 cr) ∧ W'.cell? ⟨g, o, none⟩ = some (.string s) ∧ W'.cell? ⟨R, p, none⟩ = some (.slice D a.length d) ∧ W'.cell? ⟨R, p + 1, none⟩ = some (.slice E b.length e))
  (with_reducible exact hSA.out _ hAcc)
  ((go_at_call 91; (with_reducible refine (HR.out _ (HA.out.trans (hAcc.mono HA.out.size))).mono ?_); rintro en w2 ⟨rfl, hB2⟩; replace hAcc := hAcc.trans (hB2.mono hAcc.size)))
 all_goals (
  have HAcc := hide (HA.out.trans (hAcc.mono HA.out.size))
  clear hAcc
  go_wp2
  go_ret
  exact ⟨rfl, HAcc.out⟩)
theorem exOut : rowL 2 (outV 2 ((2 : Nat) : Int) esG) = [3, 2] := by decide +kernel
theorem exRef : refB 2 esG 2 (outV 2 ((2 : Nat) : Int) esG) = true := by decide +kernel
theorem be3 : beN 3 = [3] := by decide +kernel
theorem be2 : beN 2 = [2] := by decide +kernel
theorem exCells : scells [3, 2] = [.bool false, .string ⟨#[3]⟩, .bool false, .string ⟨#[2]⟩] := by
 simp [scells, List.range_succ, ng, mgI, be3, be2]
theorem exI3 : intV 3 = .agg #[.bool false, .string ⟨#[3]⟩] := by unfold intV; rw [be3]
theorem exI2 : intV 2 = .agg #[.bool false, .string ⟨#[2]⟩] := by unfold intV; rw [be2]
theorem exAmb : cka 2 xsA [0, 2] [1, 0] [48, 49, 48] = 0 := by decide +kernel
theorem exOk : okR 2 2 2 esG 2 (fun i => ng ([3, 2].getD i 0)) (fun i => mgI ([3, 2].getD i 0)) = true := by decide +kernel
theorem exIn : ∀ e ∈ esG, inE 2 e := by
 intro e he
 simp [esG] at he
 rcases he with rfl | rfl | rfl <;> (unfold inE; decide)
def crtR (A : Option Addr) (c G I : Nat) : Crt := { kind := 2, gl := 2, gs := 2, ge := ⟨A, 3, c⟩, cl := 0, cw := .nil, ml := 0, mn := .nil, pl := 0, ps := 0, pe := .nil, pw := .nil, pi := 0, pr := .nil, nu := ⟨some ⟨G, 0, none⟩, 2, 2⟩, ix := ⟨some ⟨I, 0, none⟩, 1, 1⟩, wo := .nil, ro := .nil, ta := .nil }
theorem srow_cells {w : World} {G : Nat} (h : SRow w G [3, 2]) : w.cell? ⟨G, 0, none⟩ = some (.bool false) ∧ w.cell? ⟨G, 1, none⟩ = some (.string ⟨#[3]⟩) ∧ w.cell? ⟨G, 2, none⟩ = some (.bool false) ∧ w.cell? ⟨G, 3, none⟩ = some (.string ⟨#[2]⟩) := by
 unfold SRow at h
 rw [exCells] at h
 have k := fun j => cell_of_row w G j _ 55 (0, 0) h
 exact ⟨(k 0).trans rfl, (k 1).trans rfl, (k 2).trans rfl, (k 3).trans rfl⟩
theorem rate_G (A : Option Addr) (w : World) (hr : RowE w A esG) :
  Calls Tryz.prog 15 #[.agg #[.int .i64 2, .int .i64 2, .slice A 3 3], .int .i64 2] w fun e w' => ∃ G I, e = .returned (.tuple #[.agg (crtR A 3 G I).cells, .int .i64 0]) ∧ w.heap.size ≤ G ∧ w.heap.size ≤ I ∧ SRow w' G [3, 2] ∧ I < w'.heap.size ∧ w'.cell? ⟨I, 0, none⟩ = some (.int .i64 2) ∧ Below w.heap.size w w' := by
 have h := ckRate_ok 2 2 2 esG A 3 w (by decide) (by decide) (by decide) (by decide) exIn hr exRef
 rw [exOut] at h
 exact h
theorem chk_R (A : Option Addr) (G I : Nat) (w : World) (hr : RowE w A esG) (hG : SRow w G [3, 2]) (hI : I < w.heap.size) (hi : w.cell? ⟨I, 0, none⟩ = some (.int .i64 2)) :
  Calls Tryz.prog 6 #[.agg #[.int .i64 2, .int .i64 2, .int .i64 2, .slice A 3 3, .int .i64 0, .slice none 0 0, .int .i64 0, .slice none 0 0, .int .i64 0, .int .i64 0, .slice none 0 0, .slice none 0 0, .int .i64 0, .slice none 0 0, .slice (some ⟨G, 0, none⟩) 2 2, .slice (some ⟨I, 0, none⟩) 1 1, .slice none 0 0, .slice none 0 0, .slice none 0 0]] w fun e w' => e = .returned (.int .i64 0) ∧ Below w.heap.size w w' := by
 have hg : G < w.heap.size := hG.lt
 have h := ckCheck_2 (crtR A 3 G I) (okR 2 2 2 esG 2 (fun i => ng ([3, 2].getD i 0)) (fun i => mgI ([3, 2].getD i 0))) w rfl (fun W hW => ckRefusal_any (crtR A 3 G I) 2 esG A 3 2 (some ⟨G, 0, none⟩) 2 I 0 1 (fun i => ng ([3, 2].getD i 0)) (fun i => mgI ([3, 2].getD i 0)) W rfl rfl rfl (hr.below hW) (by decide) (fun _ => ⟨G, 0, rfl, Nat.lt_of_lt_of_le hg hW.size, fun i hi => by
   obtain ⟨h0, h1, h2, h3⟩ := srow_cells hG
   match i, hi with
   | 0, _ => exact ⟨(hW.cell (p := ⟨G, 0, none⟩) hg).trans h0, ((hW.cell (p := ⟨G, 1, none⟩) hg).trans h1).trans (by simp [mgI, be3])⟩
   | 1, _ => exact ⟨(hW.cell (p := ⟨G, 2, none⟩) hg).trans h2, ((hW.cell (p := ⟨G, 3, none⟩) hg).trans h3).trans (by simp [mgI, be2])⟩
   | n + 2, h => omega⟩) (Nat.lt_of_lt_of_le hI hW.size) ((hW.cell (p := ⟨I, 0, none⟩) hI).trans hi) (fun i hi => by
   match i, hi with
   | 0, _ => simp [mgI, be3]; decide
   | 1, _ => simp [mgI, be2]; decide
   | n + 2, h => omega))
 rw [exOk] at h
 exact h
theorem chk_A (A : Option Addr) (cap g R g1 c1 g2 c2 : Nat) (w0 w : World) (hX : RowT w A xsA) (hc : 3 ≤ cap) (hcm : cap ≤ 9223372036854775807) (hP : CodPost g R g1 c1 g2 c2 w0 w) :
  Calls Tryz.prog 6 #[.agg #[.int .i64 4, .int .i64 0, .int .i64 0, .slice none 0 0, .int .i64 2, .slice A 3 cap, .int .i64 0, .slice none 0 0, .int .i64 0, .int .i64 0, .slice none 0 0, .slice none 0 0, .int .i64 0, .slice none 0 0, .slice none 0 0, .slice none 0 0, .slice (some ⟨g, 0, none⟩) 1 1, .slice (some ⟨R, 0, none⟩) 2 2, .slice none 0 0]] w fun e w' => e = .returned (.int .i64 0) ∧ Below w.heap.size w w' := by
 have hg : g < w.heap.size := block_lt_of_cell hP.s
 have hR : R < w.heap.size := block_lt_of_cell hP.r0
 have h := ckCheck_4 (crtA A cap g R) (cka 2 xsA [0, 2] [1, 0] [48, 49, 48] == 0) w rfl (fun W hW => ckAmb_any (crtA A cap g R) xsA A cap [0, 2] [1, 0] (some ⟨g1, 0, none⟩) (some ⟨g2, 0, none⟩) c1 c2 wA g 0 1 R 0 2 W rfl rfl rfl (hX.below hW) hc hcm (hP.x.below hW) (hP.y.below hW) (by decide) (by decide)
  (Nat.lt_of_lt_of_le hg hW.size) (Nat.lt_of_lt_of_le hR hW.size) ((hW.cell (p := ⟨g, 0, none⟩) hg).trans hP.s) ((hW.cell (p := ⟨R, 0, none⟩) hR).trans hP.r0) ((hW.cell (p := ⟨R, 1, none⟩) hR).trans hP.r1))
 rw [exAmb] at h
 exact h
def zeroC : Array Value := #[.int .i64 0, .int .i64 0, .int .i64 0, .slice none 0 0, .int .i64 0, .slice none 0 0, .int .i64 0, .slice none 0 0, .int .i64 0, .int .i64 0, .slice none 0 0, .slice none 0 0, .int .i64 0, .slice none 0 0, .slice none 0 0, .slice none 0 0, .slice none 0 0, .slice none 0 0, .slice none 0 0]
theorem new_cert (W : World) (cs : Array Value) : ((W.alloc (.cells zeroC 38)).setRow W.heap.size cs).heap[W.heap.size]? = some (.cells cs 38 (0, 0)) ∧ Below W.heap.size W ((W.alloc (.cells zeroC 38)).setRow W.heap.size cs) ∧ ((W.alloc (.cells zeroC 38)).setRow W.heap.size cs).heap.size = W.heap.size + 1 :=
 ⟨setRow_heap _ _ zeroC _ 38 (0, 0) (heap_alloc_new W _), below_setRow ((Below.refl _ W).alloc (Nat.le_refl _) _) (Nat.le_refl _) _, by simp⟩
theorem litRowT (W : World) : RowT (W.alloc (Obj.cells #[.string xA1, .string xA2, .string xA3] 9)) (some ⟨W.heap.size, 0, none⟩) xsA := fun _ => ⟨W.heap.size, 0, rfl, by simp, fun k hk => by
 have h := fun j => cell_of_row (W.alloc (Obj.cells #[.string xA1, .string xA2, .string xA3] 9)) W.heap.size j _ 9 (0, 0) (heap_alloc_new W _)
 match k, hk with
 | 0, _ => exact (h 0).trans rfl
 | 1, _ => exact (h 1).trans rfl
 | 2, _ => exact (h 2).trans rfl
 | n + 3, h => exact absurd h (by simp [xsA])⟩
theorem wpList_load_rowG {P : Program} {ops : Array Oper} {rest : List Oper} {o : Oper} {a : Act} {w : World} {Q : Exit → Act → World → Prop} (hw : Region.wanted o (yielded ops a.tmps) = true) (ty : TypeId) (x : Operand) (ho : o.op = .load ty x)
  (g : Nat) (hx : a.eval x = .pointer (some ⟨g, 0, none⟩)) (t : TypeId) (cs : Array Value) (fr : Nat × Nat) (d : TypeDesc) (hg : w.heap[g]? = some (.cells cs t fr))
  (hu : P.underlying ty = some d) (hd : (match d with | .struct _ | .array _ _ => true | _ => false) = true) (hi : (P.info? ty).map (·.size) = some cs.size)
  (h : wpList P ops Q rest (a.put o.dst (.agg cs)) w) : wpList P ops Q (o :: rest) a w := by
 unfold wpList
 rw [if_pos hw]
 exact .inl (wp_load_row ty x ho g hx t cs fr d hg hu hd hi h)
theorem of_3 (w : World) : Calls Tryz.prog 18 #[.int .i64 3] w fun e w' => e = .returned (.agg #[.bool false, .string ⟨#[3]⟩]) ∧ Below w.heap.size w w' := by
 have h := iOf_any 3 (by decide) w
 rw [exI3] at h
 exact h
theorem of_2 (w : World) : Calls Tryz.prog 18 #[.int .i64 2] w fun e w' => e = .returned (.agg #[.bool false, .string ⟨#[2]⟩]) ∧ Below w.heap.size w w' := by
 have h := iOf_any 2 (by decide) w
 rw [exI2] at h
 exact h
theorem belowQ (w : World) (q : Nat) : Below w.heap.size w (w.drewN q) := ⟨rfl, rfl, rfl, Nat.le_refl _, fun _ _ => rfl⟩
theorem eq_words (w : World) (g : Nat) (hs : w.cell? ⟨g, 0, none⟩ = some (.string wA)) :
  Calls Tryz.prog 19 #[.slice (some ⟨g, 0, none⟩) 1 1, .slice (some ⟨w.heap.size, 0, none⟩) 1 1] (w.alloc (Obj.cells #[.string ⟨#[48, 49, 48]⟩] 9)) fun e w' => e = .returned (.bool true) ∧ Below w.heap.size w w' := by
 have hb : Below w.heap.size w (w.alloc (Obj.cells #[.string ⟨#[48, 49, 48]⟩] 9)) := (Below.refl _ w).alloc (Nat.le_refl _) _
 refine (slEqual_any [wA] [wA] _ _ _ (.inr ⟨g, 1, rfl, fun k hk => ?_⟩) (.inr ⟨w.heap.size, 1, rfl, fun k hk => ?_⟩) (by decide) (by decide)).mono ?_
 ·obtain rfl : k = 0 := by simp at hk; omega
  exact (hb.cell (p := ⟨g, 0, none⟩) (block_lt_of_cell hs)).trans hs
 ·obtain rfl : k = 0 := by simp at hk; omega
  exact (cell_of_row _ _ 0 _ 9 (0, 0) (heap_alloc_new w _)).trans rfl
 ·rintro e w' ⟨rfl, q, rfl⟩
  exact ⟨by simp, hb.trans ((belowQ _ q).mono hb.size)⟩
theorem eq_ints (w : World) (g c : Nat) (x y : Int) (h : RowI w (some ⟨g, 0, none⟩) [x, y]) :
  Calls Tryz.prog 20 #[.slice (some ⟨g, 0, none⟩) 2 c, .slice (some ⟨w.heap.size, 0, none⟩) 2 2] (w.alloc (Obj.cells #[.int .i64 x, .int .i64 y] 3)) fun e w' => e = .returned (.bool true) ∧ Below w.heap.size w w' := by
 have hb : Below w.heap.size w (w.alloc (Obj.cells #[.int .i64 x, .int .i64 y] 3)) := (Below.refl _ w).alloc (Nat.le_refl _) _
 refine (slEqualI_any [x, y] [x, y] _ _ c 2 _ (h.below hb) (fun _ => ⟨w.heap.size, 0, rfl, by simp, fun k hk => ?_⟩) (by simp) (by simp)).mono ?_
 ·have h := fun j => cell_of_row (w.alloc (Obj.cells #[.int .i64 x, .int .i64 y] 3)) w.heap.size j _ 3 (0, 0) (heap_alloc_new w _)
  match k, hk with
  | 0, _ => exact (h 0).trans rfl
  | 1, _ => exact (h 1).trans rfl
  | n + 2, h => exact absurd h (by simp)
 ·rintro e w' ⟨rfl, q, rfl⟩
  exact ⟨by simp, hb.trans ((belowQ _ q).mono hb.size)⟩
theorem CodPost.below {g R g1 c1 g2 c2 : Nat} {w0 W W' : World} (hP : CodPost g R g1 c1 g2 c2 w0 W) (hb6 : Below W.heap.size W W') : CodPost g R g1 c1 g2 c2 w0 W' := by
 have hgl := block_lt_of_cell hP.s
 have hRl := block_lt_of_cell hP.r0
 exact ⟨(hb6.cell (p := ⟨g, 0, none⟩) hgl).trans hP.s, (hb6.cell (p := ⟨R, 0, none⟩) hRl).trans hP.r0, (hb6.cell (p := ⟨R, 1, none⟩) hRl).trans hP.r1, hP.x.below hb6, hP.y.below hb6, hP.g, hP.R, hP.b.trans (hb6.mono hP.b.size)⟩
set_option maxRecDepth 100000 in
set_option maxHeartbeats 4000000 in
theorem awake59_any (w : World) : Calls Tryz.prog 7 #[] w fun e w' => e = .returned (.bool true) ∧ Below w.heap.size w w' := by
 have HGo := hide (fun W => golden59_any W)
 have HRa := hide (fun A W h => rate_G A W h)
 have HCo := hide (fun A cap W hR hc hcm => ckCode_A A cap W hR hc hcm)
 have HCR := hide (fun A G I W h1 h2 h3 h4 => chk_R A G I W h1 h2 h3 h4)
 have HCA := hide (fun A cap g R g1 c1 g2 c2 w0 W h1 h2 h3 h4 => chk_A A cap g R g1 c1 g2 c2 w0 W h1 h2 h3 h4)
 have hB := Below.refl w.heap.size w
 go_enter Tryz.func7, Tryz.ntmps7
 go_wp2_with (first
  | (go_at_call 16; refine (HGo.out _).mono ?_; rintro e W1 ⟨A, rfl, hRA, hBA⟩; replace hB := hB.trans (hBA.mono hB.size))
  | (go_at_call 15; refine (HRa.out A _ hRA).mono ?_; rintro e W2 ⟨G, I, rfl, hGw, hIw, hG, hIl, hI, hB2⟩; replace hB := hB.trans (hB2.mono hB.size); obtain ⟨hk3, hb3, hs3⟩ := new_cert W2 (crtR A 3 G I).cells)
  | (refine wpList_store_rowTo (by rfl) 38 _ _ (by rfl) (by rfl) W2.heap.size (crtR A 3 G I).cells (by rfl) (by rfl) 38 zeroC (heap_alloc_new W2 _) (by kernel_rfl) (by rfl) (by kernel_rfl) ?_))
 show Calls Tryz.prog 17 #[.agg #[.int .i64 2, .slice (some ⟨W2.heap.size + 1, 0, none⟩) 3 3]] (((W2.alloc (.cells zeroC 38)).setRow W2.heap.size (crtR A 3 G I).cells).alloc (Obj.cells #[.string xA1, .string xA2, .string xA3] 9)) _
 generalize (W2.alloc (.cells zeroC 38)).setRow W2.heap.size (crtR A 3 G I).cells = W3 at hk3 hb3 hs3 ⊢
 have hGl := hG.lt
 have hRA3 := (hRA.below hB2).below hb3
 have hG3 : SRow W3 G [3, 2] := (hb3.block G hGl).trans hG
 have hI3 := (hb3.cell (p := ⟨I, 0, none⟩) hIl).trans hI
 replace hB := hB.trans (hb3.mono hB.size)
 have hw2 : w.heap.size ≤ W2.heap.size := by have := hB2.size; have := hBA.size; omega
 obtain ⟨C, hC⟩ : ∃ C, W2.heap.size = C := ⟨_, rfl⟩
 rw [hC] at hk3 hb3 hs3 hw2 hGl hIl ⊢
 clear hG hI hb3 hRA hB2 hBA hGw hIw
 clear hC W2 W1
 have hX4 := litRowT W3
 have hb4 : Below W3.heap.size W3 (W3.alloc (Obj.cells #[.string xA1, .string xA2, .string xA3] 9)) := (Below.refl _ W3).alloc (Nat.le_refl _) _
 rw [hs3] at hX4 hb4
 generalize W3.alloc (Obj.cells #[.string xA1, .string xA2, .string xA3] 9) = W4 at hX4 hb4 ⊢
 refine (HCo.out _ 3 _ hX4 (by decide) (by decide)).mono ?_
 rintro e W5 ⟨g, R, g1, c1, g2, c2, rfl, hP⟩
 have hb5 := hb4.trans (hP.b.mono (by rw [← hs3]; exact hb4.size))
 obtain ⟨hk6, hb6, hs6⟩ := new_cert W5 (crtA (some ⟨C + 1, 0, none⟩) 3 g R).cells
 obtain ⟨D, hD⟩ : ∃ D, W5.heap.size = D := ⟨_, rfl⟩
 obtain ⟨W6, hW6⟩ : ∃ W6, (W5.alloc (.cells zeroC 38)).setRow W5.heap.size (crtA (some ⟨C + 1, 0, none⟩) 3 g R).cells = W6 := ⟨_, rfl⟩
 have hP6 : CodPost g R g1 c1 g2 c2 W4 W6 := by
  rw [hW6] at hb6
  exact hP.below hb6
 have hkc6 := (hb6.block C (by have := hb5.size; omega)).trans ((hb5.block C (by omega)).trans hk3)
 have hb63 := hb5.trans (hb6.mono (by rw [← hs3]; exact hb5.size))
 rw [hW6] at hk6 hb6 hs6 hkc6 hb63
 have hX6 := hX4.below (hP.b.trans (hb6.mono hP.b.size))
 unfold zeroC at hW6
 have hb63' : Below W3.heap.size W3 W6 := by rw [hs3]; exact hb63
 rw [hD] at hW6
 have hCD : C < D := by have := hb5.size; omega
 rw [hD] at hk6 hs6
 have p14 : W6.cell? ⟨C, 14, none⟩ = some (.slice (some ⟨G, 0, none⟩) 2 2) := (cell_of_row W6 C 14 _ 38 (0, 0) hkc6).trans rfl
 have hQ : ∀ W7, Below W6.heap.size W6 W7 → W7.heap[D]? = some (.cells (crtA (some ⟨C + 1, 0, none⟩) 3 g R).cells 38 (0, 0)) := fun W7 h => (h.block D (by omega)).trans hk6
 have q17 : W6.cell? ⟨D, 17, none⟩ = some (.slice (some ⟨R, 0, none⟩) 2 2) := (cell_of_row W6 D 17 _ 38 (0, 0) hk6).trans rfl
 have hkc6' : W6.heap[C]? = some (.cells #[.int .i64 2, .int .i64 2, .int .i64 2, .slice A 3 3, .int .i64 0, .slice none 0 0, .int .i64 0, .slice none 0 0, .int .i64 0, .int .i64 0, .slice none 0 0, .slice none 0 0, .int .i64 0, .slice none 0 0, .slice (some ⟨G, 0, none⟩) 2 2, .slice (some ⟨I, 0, none⟩) 1 1, .slice none 0 0, .slice none 0 0, .slice none 0 0] 38 (0, 0)) := hkc6
 have hk6' : ∀ W7, Below W6.heap.size W6 W7 → W7.heap[D]? = some (.cells #[.int .i64 4, .int .i64 0, .int .i64 0, .slice none 0 0, .int .i64 2, .slice (some ⟨C + 1, 0, none⟩) 3 3, .int .i64 0, .slice none 0 0, .int .i64 0, .int .i64 0, .slice none 0 0, .slice none 0 0, .int .i64 0, .slice none 0 0, .slice none 0 0, .slice none 0 0, .slice (some ⟨g, 0, none⟩) 1 1, .slice (some ⟨R, 0, none⟩) 2 2, .slice none 0 0] 38 (0, 0)) := hQ
 have HR6 := hide (HCR.out A G I W6 (hRA3.below hb63') ((hb63.block G (by omega)).trans hG3) (by have := hb63.size; omega) ((hb63.cell (p := ⟨I, 0, none⟩) (Nat.lt_succ_of_lt hIl)).trans hI3))
 go_wp2_with (first
  | (refine wpList_store_rowTo (by rfl) 38 _ _ (by rfl) (by rfl) D (crtA (some ⟨C + 1, 0, none⟩) 3 g R).cells (by rfl) (by rfl) 38 zeroC (by rw [← hD]; exact heap_alloc_new W5 _) (by kernel_rfl) (by rfl) (by kernel_rfl) ?_; rw [hW6])
  | (refine wpList_load_rowG (by rfl) 38 _ (by rfl) C (by rfl) 38 _ (0, 0) _ hkc6' Tryz.underlying38 (by rfl) (by kernel_rfl) ?_)
  | (refine wpList_load_rowG (by rfl) 38 _ (by rfl) D (by rfl) 38 _ (0, 0) _ hk7 Tryz.underlying38 (by rfl) (by kernel_rfl) ?_)
  | (go_at_call_of 6 (Value.agg #[Value.int IntKind.i64 2, Value.int IntKind.i64 2, Value.int IntKind.i64 2, Value.slice A 3 3, Value.int IntKind.i64 0, Value.slice none 0 0, Value.int IntKind.i64 0, Value.slice none 0 0, Value.int IntKind.i64 0, Value.int IntKind.i64 0, Value.slice none 0 0, Value.slice none 0 0, Value.int IntKind.i64 0, Value.slice none 0 0, Value.slice (some ⟨G, 0, none⟩) 2 2, Value.slice (some ⟨I, 0, none⟩) 1 1, Value.slice none 0 0, Value.slice none 0 0, Value.slice none 0 0]); refine HR6.out.mono ?_; rintro e W7 ⟨rfl, hB7⟩; clear q17; have hk7 := hk6' W7 hB7)
  | (go_at_call 6; refine (HCA.out (some ⟨C + 1, 0, none⟩) 3 g R g1 c1 g2 c2 W4 _ (hX6.below hB7) (by decide) (by decide) (hP6.below hB7)).mono ?_; rintro e W8 ⟨rfl, hB8⟩))
 have hP8 := (hP6.below hB7).below hB8
 have hb68 := hB7.trans (hB8.mono hB7.size)
 have hb38 := hb63'.trans (hb68.mono hb63'.size)
 have hk8 := hk6' W8 hb68
 have hc8 : W8.heap[C]? = some (.cells #[.int .i64 2, .int .i64 2, .int .i64 2, .slice A 3 3, .int .i64 0, .slice none 0 0, .int .i64 0, .slice none 0 0, .int .i64 0, .int .i64 0, .slice none 0 0, .slice none 0 0, .int .i64 0, .slice none 0 0, .slice (some ⟨G, 0, none⟩) 2 2, .slice (some ⟨I, 0, none⟩) 1 1, .slice none 0 0, .slice none 0 0, .slice none 0 0] 38 (0, 0)) := (hb68.block C (by have := (Array.getElem?_eq_some_iff.1 hkc6').1; omega)).trans hkc6'
 obtain ⟨i0, i1, i2, i3⟩ := srow_cells (show SRow W8 G [3, 2] from (hb38.block G (by omega)).trans hG3)
 have hSA := hide (show ∀ W', Below W8.heap.size W8 W' → W'.cell? ⟨C, 0, none⟩ = some (.int .i64 2) ∧ W'.cell? ⟨C, 14, none⟩ = some (.slice (some ⟨G, 0, none⟩) 2 2) ∧ W'.cell? ⟨G, 0, none⟩ = some (.bool false) ∧ W'.cell? ⟨G, 1, none⟩ = some (.string ⟨#[3]⟩) ∧ W'.cell? ⟨G, 2, none⟩ = some (.bool false) ∧ W'.cell? ⟨G, 3, none⟩ = some (.string ⟨#[2]⟩) ∧ W'.cell? ⟨D, 0, none⟩ = some (.int .i64 4) ∧ W'.cell? ⟨D, 16, none⟩ = some (.slice (some ⟨g, 0, none⟩) 1 1) ∧ W'.cell? ⟨D, 17, none⟩ = some (.slice (some ⟨R, 0, none⟩) 2 2) ∧ W'.cell? ⟨R, 0, none⟩ = some (.slice (some ⟨g1, 0, none⟩) 2 c1) ∧ W'.cell? ⟨R, 1, none⟩ = some (.slice (some ⟨g2, 0, none⟩) 2 c2) from fun W' h => by
  have hC := (h.block C (Array.getElem?_eq_some_iff.1 hc8).1).trans hc8
  have hD := (h.block D (Array.getElem?_eq_some_iff.1 hk8).1).trans hk8
  have hPW := hP8.below h
  have hGl8 := block_lt_of_cell i0
  exact ⟨(cell_of_row W' C 0 _ 38 (0, 0) hC).trans rfl, (cell_of_row W' C 14 _ 38 (0, 0) hC).trans rfl, (h.cell (p := ⟨G, 0, none⟩) hGl8).trans i0, (h.cell (p := ⟨G, 1, none⟩) hGl8).trans i1, (h.cell (p := ⟨G, 2, none⟩) hGl8).trans i2, (h.cell (p := ⟨G, 3, none⟩) hGl8).trans i3, (cell_of_row W' D 0 _ 38 (0, 0) hD).trans rfl, (cell_of_row W' D 16 _ 38 (0, 0) hD).trans rfl, (cell_of_row W' D 17 _ 38 (0, 0) hD).trans rfl, hPW.r0, hPW.r1⟩)
 have HE1 := hide (fun W (h : Below W8.heap.size W8 W) => eq_words W g (hP8.below h).s)
 have HE2 := hide (fun W (h : Below W8.heap.size W8 W) => eq_ints W g1 c1 0 2 (hP8.below h).x)
 have HE3 := hide (fun W (h : Below W8.heap.size W8 W) => eq_ints W g2 c2 1 0 (hP8.below h).y)
 have HO3 := hide (fun W => of_3 W)
 have HO2 := hide (fun W => of_2 W)
 have HBf := hide (hB.trans (hb38.mono (by rw [hs3]; omega)))
 have hAcc : Below W8.heap.size W8 W8.drew := (Below.refl _ _).drew
 clear hB HGo HRa HCo HCR HCA hX4 hb4 hP hb5 hk6 hb6 hs6 hP6 hkc6 hb63 hX6 hW6 hb63' hCD hD hkc6' HR6 hk7 hB7 hB8 hP8 hb68 hb38 hk8 hc8 i0 i1 i2 i3 hRA3 hG3 hI3 hk3 hs3 hw2 hGl hIl hQ hk6' p14
 have h02 : (0 : Int) < 2 := by decide
 have h12 : (1 : Int) < 2 := by decide
 refine wp_region_noPanic ?_
 refine wp_region_held_drew (S := fun W' => W'.cell? ⟨C, 0, none⟩ = some (.int .i64 2) ∧ W'.cell? ⟨C, 14, none⟩ = some (.slice (some ⟨G, 0, none⟩) 2 2) ∧ W'.cell? ⟨G, 0, none⟩ = some (.bool false) ∧ W'.cell? ⟨G, 1, none⟩ = some (.string ⟨#[3]⟩) ∧ W'.cell? ⟨G, 2, none⟩ = some (.bool false) ∧ W'.cell? ⟨G, 3, none⟩ = some (.string ⟨#[2]⟩) ∧ W'.cell? ⟨D, 0, none⟩ = some (.int .i64 4) ∧ W'.cell? ⟨D, 16, none⟩ = some (.slice (some ⟨g, 0, none⟩) 1 1) ∧ W'.cell? ⟨D, 17, none⟩ = some (.slice (some ⟨R, 0, none⟩) 2 2) ∧ W'.cell? ⟨R, 0, none⟩ = some (.slice (some ⟨g1, 0, none⟩) 2 c1) ∧ W'.cell? ⟨R, 1, none⟩ = some (.slice (some ⟨g2, 0, none⟩) 2 c2)) (by kernel_rfl) (hSA.out _ hAcc) (fun hHeld => ?_)
 refine wpAnyH_take (i := 0) (oi := _) (v := ?v0) rfl (by kernel_rfl) (by kernel_rfl) (by kernel_rfl) (fun _ _ _ h => h) (Or.inl ⟨by rfl, ?hy0⟩) (by assumption) ?rest0
 case hy0 => (intro w hSw; (try dsimp only at hSw); go_simp; (try with_reducible rfl))
 (try simp only [List.getElem_toArray, List.getElem_cons_zero, Act.put, List.setIfInBounds_toArray, List.set_cons_zero, List.set_cons_succ])
 refine wpAnyH_take (i := 1) (oi := _) (v := ?v1) rfl (by kernel_rfl) (by kernel_rfl) (by kernel_rfl) (fun _ _ _ h => h) (Or.inl ⟨by rfl, ?hy1⟩) (by assumption) ?rest1
 case hy1 => (intro w hSw; (try dsimp only at hSw); go_simp; (try with_reducible rfl))
 (try simp only [List.getElem_toArray, List.getElem_cons_zero, List.getElem_cons_succ, Act.put, List.setIfInBounds_toArray, List.set_cons_zero, List.set_cons_succ])
 refine wpAnyH_take (i := 2) (oi := _) (v := ?v2) rfl (by kernel_rfl) (by kernel_rfl) (by kernel_rfl) (fun _ _ _ h => h) (Or.inl ⟨by rfl, ?hy2⟩) (by assumption) ?rest2
 case hy2 => (intro w hSw; (try dsimp only at hSw); go_simp; (try with_reducible rfl))
 (try simp only [List.getElem_toArray, List.getElem_cons_zero, List.getElem_cons_succ, Act.put, List.setIfInBounds_toArray, List.set_cons_zero, List.set_cons_succ])
 refine wpAnyH_take (i := 3) (oi := _) (v := ?v3) rfl (by kernel_rfl) (by kernel_rfl) (by kernel_rfl) (fun _ _ _ h => h) (Or.inl ⟨by rfl, ?hy3⟩) (by assumption) ?rest3
 case hy3 => (intro w hSw; (try dsimp only at hSw); go_simp; (try with_reducible rfl))
 (try simp only [List.getElem_toArray, List.getElem_cons_zero, List.getElem_cons_succ, Act.put, List.setIfInBounds_toArray, List.set_cons_zero, List.set_cons_succ])
 refine wpAnyH_take (i := 4) (oi := _) (v := ?v4) rfl (by kernel_rfl) (by kernel_rfl) (by kernel_rfl) (fun _ _ _ h => h) (Or.inl ⟨by rfl, ?hy4⟩) (by assumption) ?rest4
 case hy4 => (intro w hSw; (try dsimp only at hSw); go_simp; (try with_reducible rfl))
 (try simp only [List.getElem_toArray, List.getElem_cons_zero, List.getElem_cons_succ, Act.put, List.setIfInBounds_toArray, List.set_cons_zero, List.set_cons_succ])
 refine wpAnyH_take (i := 5) (oi := _) (v := ?v5) rfl (by kernel_rfl) (by kernel_rfl) (by kernel_rfl) (fun _ _ _ h => h) (Or.inl ⟨by rfl, ?hy5⟩) (by assumption) ?rest5
 case hy5 => (intro w hSw; (try dsimp only at hSw); go_simp; (try with_reducible rfl))
 (try simp only [List.getElem_toArray, List.getElem_cons_zero, List.getElem_cons_succ, Act.put, List.setIfInBounds_toArray, List.set_cons_zero, List.set_cons_succ])
 refine wpAnyH_take (i := 6) (oi := _) (v := ?v6) rfl (by kernel_rfl) (by kernel_rfl) (by kernel_rfl) (fun _ _ _ h => h) (Or.inl ⟨by rfl, ?hy6⟩) (by assumption) ?rest6
 case hy6 => (intro w hSw; (try dsimp only at hSw); go_simp; (try with_reducible rfl))
 (try simp only [List.getElem_toArray, List.getElem_cons_zero, List.getElem_cons_succ, Act.put, List.setIfInBounds_toArray, List.set_cons_zero, List.set_cons_succ])
 refine wpAnyH_take (i := 7) (oi := _) (v := ?v7) rfl (by kernel_rfl) (by kernel_rfl) (by kernel_rfl) (fun _ _ _ h => h) (Or.inl ⟨by rfl, ?hy7⟩) (by assumption) ?rest7
 case hy7 => (intro w hSw; (try dsimp only at hSw); go_simp; (try with_reducible rfl))
 (try simp only [List.getElem_toArray, List.getElem_cons_zero, List.getElem_cons_succ, Act.put, List.setIfInBounds_toArray, List.set_cons_zero, List.set_cons_succ])
 refine wpAnyH_ready (rs := [8]) (by kernel_rfl) (by simp) ?_
 refine AllReadyH.cons (o := _) rfl (fun K hK => ?_) AllReadyH.nil
 go_simp
 (with_reducible refine (HO3.out _).mono ?_)
 rintro en w2 ⟨rfl, hB2⟩
 replace hAcc := hAcc.trans (hB2.mono hAcc.size)
 clear hB2
 (try go_wp2_with fail)
 refine hK.out _ _ ?_ (fun hHeld => ?_)
 ·exact hSA.out _ hAcc
 clear hK K
 (try simp only [List.getElem_toArray, List.getElem_cons_zero, List.getElem_cons_succ, Act.put, List.setIfInBounds_toArray, List.set_cons_zero, List.set_cons_succ])
 refine wpAnyH_take (i := 9) (oi := _) (v := ?v9) rfl (by kernel_rfl) (by kernel_rfl) (by kernel_rfl) (fun _ _ _ h => h) (Or.inl ⟨by rfl, ?hy9⟩) (by assumption) ?rest9
 case hy9 => (intro w hSw; (try dsimp only at hSw); go_simp; (try with_reducible rfl))
 (try simp only [List.getElem_toArray, List.getElem_cons_zero, List.getElem_cons_succ, Act.put, List.setIfInBounds_toArray, List.set_cons_zero, List.set_cons_succ])
 refine wpAnyH_take (i := 10) (oi := _) (v := ?v10) rfl (by kernel_rfl) (by kernel_rfl) (by kernel_rfl) (fun _ _ _ h => h) (Or.inl ⟨by rfl, ?hy10⟩) (by assumption) ?rest10
 case hy10 => (intro w hSw; (try dsimp only at hSw); go_simp; (try with_reducible rfl))
 (try simp only [List.getElem_toArray, List.getElem_cons_zero, List.getElem_cons_succ, Act.put, List.setIfInBounds_toArray, List.set_cons_zero, List.set_cons_succ])
 refine wpAnyH_take (i := 11) (oi := _) (v := ?v11) rfl (by kernel_rfl) (by kernel_rfl) (by kernel_rfl) (fun _ _ _ h => h) (Or.inl ⟨by rfl, ?hy11⟩) (by assumption) ?rest11
 case hy11 => (intro w hSw; (try dsimp only at hSw); go_simp; (try with_reducible rfl))
 (try simp only [List.getElem_toArray, List.getElem_cons_zero, List.getElem_cons_succ, Act.put, List.setIfInBounds_toArray, List.set_cons_zero, List.set_cons_succ])
 refine wpAnyH_take (i := 12) (oi := _) (v := ?v12) rfl (by kernel_rfl) (by kernel_rfl) (by kernel_rfl) (fun _ _ _ h => h) (Or.inl ⟨by rfl, ?hy12⟩) (by assumption) ?rest12
 case hy12 => (intro w hSw; (try dsimp only at hSw); go_simp; (try with_reducible rfl))
 (try simp only [List.getElem_toArray, List.getElem_cons_zero, List.getElem_cons_succ, Act.put, List.setIfInBounds_toArray, List.set_cons_zero, List.set_cons_succ])
 refine wpAnyH_take (i := 13) (oi := _) (v := ?v13) rfl (by kernel_rfl) (by kernel_rfl) (by kernel_rfl) (fun _ _ _ h => h) (Or.inl ⟨by rfl, ?hy13⟩) (by assumption) ?rest13
 case hy13 => (intro w hSw; (try dsimp only at hSw); go_simp; (try with_reducible rfl))
 (try simp only [List.getElem_toArray, List.getElem_cons_zero, List.getElem_cons_succ, Act.put, List.setIfInBounds_toArray, List.set_cons_zero, List.set_cons_succ])
 refine wpAnyH_take (i := 14) (oi := _) (v := ?v14) rfl (by kernel_rfl) (by kernel_rfl) (by kernel_rfl) (fun _ _ _ h => h) (Or.inl ⟨by rfl, ?hy14⟩) (by assumption) ?rest14
 case hy14 => (intro w hSw; (try dsimp only at hSw); go_simp; (try with_reducible rfl))
 (try simp only [List.getElem_toArray, List.getElem_cons_zero, List.getElem_cons_succ, Act.put, List.setIfInBounds_toArray, List.set_cons_zero, List.set_cons_succ])
 refine wpAnyH_take (i := 15) (oi := _) (v := ?v15) rfl (by kernel_rfl) (by kernel_rfl) (by kernel_rfl) (fun _ _ _ h => h) (Or.inl ⟨by rfl, ?hy15⟩) (by assumption) ?rest15
 case hy15 => (intro w hSw; (try dsimp only at hSw); go_simp; (try with_reducible rfl))
 (try simp only [List.getElem_toArray, List.getElem_cons_zero, List.getElem_cons_succ, Act.put, List.setIfInBounds_toArray, List.set_cons_zero, List.set_cons_succ])
 refine wpAnyH_ready (rs := [16]) (by kernel_rfl) (by simp) ?_
 refine AllReadyH.cons (o := _) rfl (fun K hK => ?_) AllReadyH.nil
 go_simp
 (with_reducible refine (HO2.out _).mono ?_)
 rintro en w2 ⟨rfl, hB2⟩
 replace hAcc := hAcc.trans (hB2.mono hAcc.size)
 clear hB2
 (try go_wp2_with fail)
 refine hK.out _ _ ?_ (fun hHeld => ?_)
 ·exact hSA.out _ hAcc
 clear hK K
 (try simp only [List.getElem_toArray, List.getElem_cons_zero, List.getElem_cons_succ, Act.put, List.setIfInBounds_toArray, List.set_cons_zero, List.set_cons_succ])
 refine wpAnyH_take (i := 17) (oi := _) (v := ?v17) rfl (by kernel_rfl) (by kernel_rfl) (by kernel_rfl) (fun _ _ _ h => h) (Or.inl ⟨by rfl, ?hy17⟩) (by assumption) ?rest17
 case hy17 => (intro w hSw; (try dsimp only at hSw); go_simp; (try with_reducible rfl))
 (try simp only [List.getElem_toArray, List.getElem_cons_zero, List.getElem_cons_succ, Act.put, List.setIfInBounds_toArray, List.set_cons_zero, List.set_cons_succ])
 refine wpAnyH_take (i := 18) (oi := _) (v := ?v18) rfl (by kernel_rfl) (by kernel_rfl) (by kernel_rfl) (fun _ _ _ h => h) (Or.inl ⟨by rfl, ?hy18⟩) (by assumption) ?rest18
 case hy18 => (intro w hSw; (try dsimp only at hSw); go_simp; (try with_reducible rfl))
 (try simp only [List.getElem_toArray, List.getElem_cons_zero, List.getElem_cons_succ, Act.put, List.setIfInBounds_toArray, List.set_cons_zero, List.set_cons_succ])
 refine wpAnyH_take (i := 19) (oi := _) (v := ?v19) rfl (by kernel_rfl) (by kernel_rfl) (by kernel_rfl) (fun _ _ _ h => h) (Or.inl ⟨by rfl, ?hy19⟩) (by assumption) ?rest19
 case hy19 => (intro w hSw; (try dsimp only at hSw); go_simp; (try with_reducible rfl))
 (try simp only [List.getElem_toArray, List.getElem_cons_zero, List.getElem_cons_succ, Act.put, List.setIfInBounds_toArray, List.set_cons_zero, List.set_cons_succ])
 refine wpAnyH_take (i := 20) (oi := _) (v := ?v20) rfl (by kernel_rfl) (by kernel_rfl) (by kernel_rfl) (fun _ _ _ h => h) (Or.inl ⟨by rfl, ?hy20⟩) (by assumption) ?rest20
 case hy20 => (intro w hSw; (try dsimp only at hSw); go_simp; (try with_reducible rfl))
 (try simp only [List.getElem_toArray, List.getElem_cons_zero, List.getElem_cons_succ, Act.put, List.setIfInBounds_toArray, List.set_cons_zero, List.set_cons_succ])
 refine wpAnyH_take (i := 21) (oi := _) (v := ?v21) rfl (by kernel_rfl) (by kernel_rfl) (by kernel_rfl) (fun _ _ _ h => h) (Or.inl ⟨by rfl, ?hy21⟩) (by assumption) ?rest21
 case hy21 => (intro w hSw; (try dsimp only at hSw); go_simp; (try with_reducible rfl))
 (try simp only [List.getElem_toArray, List.getElem_cons_zero, List.getElem_cons_succ, Act.put, List.setIfInBounds_toArray, List.set_cons_zero, List.set_cons_succ])
 refine wpAnyH_take (i := 22) (oi := _) (v := ?v22) rfl (by kernel_rfl) (by kernel_rfl) (by kernel_rfl) (fun _ _ _ h => h) (Or.inl ⟨by rfl, ?hy22⟩) (by assumption) ?rest22
 case hy22 => (intro w hSw; (try dsimp only at hSw); go_simp; (try with_reducible rfl))
 (try simp only [List.getElem_toArray, List.getElem_cons_zero, List.getElem_cons_succ, Act.put, List.setIfInBounds_toArray, List.set_cons_zero, List.set_cons_succ])
 refine wpAnyH_take (i := 23) (oi := _) (v := ?v23) rfl (by kernel_rfl) (by kernel_rfl) (by kernel_rfl) (fun _ _ _ h => h) (Or.inl ⟨by rfl, ?hy23⟩) (by assumption) ?rest23
 case hy23 => (intro w hSw; (try dsimp only at hSw); go_simp; (try with_reducible rfl))
 (try simp only [List.getElem_toArray, List.getElem_cons_zero, List.getElem_cons_succ, Act.put, List.setIfInBounds_toArray, List.set_cons_zero, List.set_cons_succ])
 refine wpAnyH_take (i := 24) (oi := _) (v := ?v24) rfl (by kernel_rfl) (by kernel_rfl) (by kernel_rfl) (fun _ _ _ h => h) (Or.inl ⟨by rfl, ?hy24⟩) (by assumption) ?rest24
 case hy24 => (intro w hSw; (try dsimp only at hSw); go_simp; (try with_reducible rfl))
 (try simp only [List.getElem_toArray, List.getElem_cons_zero, List.getElem_cons_succ, Act.put, List.setIfInBounds_toArray, List.set_cons_zero, List.set_cons_succ])
 refine wpAnyH_take (i := 25) (oi := _) (v := ?v25) rfl (by kernel_rfl) (by kernel_rfl) (by kernel_rfl) (fun _ _ _ h => h) (Or.inl ⟨by rfl, ?hy25⟩) (by assumption) ?rest25
 case hy25 => (intro w hSw; (try dsimp only at hSw); go_simp; (try with_reducible rfl))
 (try simp only [List.getElem_toArray, List.getElem_cons_zero, List.getElem_cons_succ, Act.put, List.setIfInBounds_toArray, List.set_cons_zero, List.set_cons_succ])
 refine wpAnyH_take (i := 26) (oi := _) (v := ?v26) rfl (by kernel_rfl) (by kernel_rfl) (by kernel_rfl) (fun _ _ _ h => h) (Or.inl ⟨by rfl, ?hy26⟩) (by assumption) ?rest26
 case hy26 => (intro w hSw; (try dsimp only at hSw); go_simp; (try with_reducible rfl))
 (try simp only [List.getElem_toArray, List.getElem_cons_zero, List.getElem_cons_succ, Act.put, List.setIfInBounds_toArray, List.set_cons_zero, List.set_cons_succ])
 refine wpAnyH_ready (rs := [27]) (by kernel_rfl) (by simp) ?_
 refine AllReadyH.cons (o := _) rfl (fun K hK => ?_) AllReadyH.nil
 go_simp
 refine hK.out _ _ ?_ (fun hHeld => ?_)
 ·exact hSA.out _ (hAcc.alloc hAcc.size _)
 clear hK K
 (try simp only [List.getElem_toArray, List.getElem_cons_zero, List.getElem_cons_succ, Act.put, List.setIfInBounds_toArray, List.set_cons_zero, List.set_cons_succ])
 refine wpAnyH_ready (rs := [28]) (by kernel_rfl) (by simp) ?_
 refine AllReadyH.cons (o := _) rfl (fun K hK => ?_) AllReadyH.nil
 go_simp
 refine (HE1.out _ hAcc).mono ?_
 rintro en w2 ⟨rfl, hB2⟩
 replace hAcc := hAcc.trans (hB2.mono hAcc.size)
 clear hB2
 (try go_wp2_with fail)
 refine hK.out _ _ ?_ (fun hHeld => ?_)
 ·exact hSA.out _ hAcc
 clear hK K
 (try simp only [List.getElem_toArray, List.getElem_cons_zero, List.getElem_cons_succ, Act.put, List.setIfInBounds_toArray, List.set_cons_zero, List.set_cons_succ])
 refine wpAnyH_take (i := 29) (oi := _) (v := ?v29) rfl (by kernel_rfl) (by kernel_rfl) (by kernel_rfl) (fun _ _ _ h => h) (Or.inl ⟨by rfl, ?hy29⟩) (by assumption) ?rest29
 case hy29 => (intro w hSw; (try dsimp only at hSw); go_simp; (try with_reducible rfl))
 (try simp only [List.getElem_toArray, List.getElem_cons_zero, List.getElem_cons_succ, Act.put, List.setIfInBounds_toArray, List.set_cons_zero, List.set_cons_succ])
 refine wpAnyH_take (i := 30) (oi := _) (v := ?v30) rfl (by kernel_rfl) (by kernel_rfl) (by kernel_rfl) (fun _ _ _ h => h) (Or.inl ⟨by rfl, ?hy30⟩) (by assumption) ?rest30
 case hy30 => (intro w hSw; (try dsimp only at hSw); go_simp; (try with_reducible rfl))
 (try simp only [List.getElem_toArray, List.getElem_cons_zero, List.getElem_cons_succ, Act.put, List.setIfInBounds_toArray, List.set_cons_zero, List.set_cons_succ])
 refine wpAnyH_take (i := 31) (oi := _) (v := ?v31) rfl (by kernel_rfl) (by kernel_rfl) (by kernel_rfl) (fun _ _ _ h => h) (Or.inl ⟨by rfl, ?hy31⟩) (by assumption) ?rest31
 case hy31 => (intro w hSw; (try dsimp only at hSw); go_simp; (try with_reducible rfl))
 (try simp only [List.getElem_toArray, List.getElem_cons_zero, List.getElem_cons_succ, Act.put, List.setIfInBounds_toArray, List.set_cons_zero, List.set_cons_succ])
 refine wpAnyH_take (i := 32) (oi := _) (v := ?v32) rfl (by kernel_rfl) (by kernel_rfl) (by kernel_rfl) (fun _ _ _ h => h) (Or.inl ⟨by rfl, ?hy32⟩) (by assumption) ?rest32
 case hy32 => (intro w hSw; (try dsimp only at hSw); go_simp; (try with_reducible rfl))
 (try simp only [List.getElem_toArray, List.getElem_cons_zero, List.getElem_cons_succ, Act.put, List.setIfInBounds_toArray, List.set_cons_zero, List.set_cons_succ])
 refine wpAnyH_take (i := 33) (oi := _) (v := ?v33) rfl (by kernel_rfl) (by kernel_rfl) (by kernel_rfl) (fun _ _ _ h => h) (Or.inl ⟨by rfl, ?hy33⟩) (by assumption) ?rest33
 case hy33 => (intro w hSw; (try dsimp only at hSw); go_simp; (try with_reducible rfl))
 (try simp only [List.getElem_toArray, List.getElem_cons_zero, List.getElem_cons_succ, Act.put, List.setIfInBounds_toArray, List.set_cons_zero, List.set_cons_succ])
 refine wpAnyH_take (i := 34) (oi := _) (v := ?v34) rfl (by kernel_rfl) (by kernel_rfl) (by kernel_rfl) (fun _ _ _ h => h) (Or.inl ⟨by rfl, ?hy34⟩) (by assumption) ?rest34
 case hy34 => (intro w hSw; (try dsimp only at hSw); go_simp; (try with_reducible rfl))
 (try simp only [List.getElem_toArray, List.getElem_cons_zero, List.getElem_cons_succ, Act.put, List.setIfInBounds_toArray, List.set_cons_zero, List.set_cons_succ])
 refine wpAnyH_ready (rs := [35]) (by kernel_rfl) (by simp) ?_
 refine AllReadyH.cons (o := _) rfl (fun K hK => ?_) AllReadyH.nil
 go_simp
 refine hK.out _ _ ?_ (fun hHeld => ?_)
 ·exact hSA.out _ (hAcc.alloc hAcc.size _)
 clear hK K
 (try simp only [List.getElem_toArray, List.getElem_cons_zero, List.getElem_cons_succ, Act.put, List.setIfInBounds_toArray, List.set_cons_zero, List.set_cons_succ])
 refine wpAnyH_ready (rs := [36]) (by kernel_rfl) (by simp) ?_
 refine AllReadyH.cons (o := _) rfl (fun K hK => ?_) AllReadyH.nil
 go_simp
 refine (HE2.out _ hAcc).mono ?_
 rintro en w2 ⟨rfl, hB2⟩
 replace hAcc := hAcc.trans (hB2.mono hAcc.size)
 clear hB2
 (try go_wp2_with fail)
 refine hK.out _ _ ?_ (fun hHeld => ?_)
 ·exact hSA.out _ hAcc
 clear hK K
 (try simp only [List.getElem_toArray, List.getElem_cons_zero, List.getElem_cons_succ, Act.put, List.setIfInBounds_toArray, List.set_cons_zero, List.set_cons_succ])
 refine wpAnyH_take (i := 37) (oi := _) (v := ?v37) rfl (by kernel_rfl) (by kernel_rfl) (by kernel_rfl) (fun _ _ _ h => h) (Or.inl ⟨by rfl, ?hy37⟩) (by assumption) ?rest37
 case hy37 => (intro w hSw; (try dsimp only at hSw); go_simp; (try with_reducible rfl))
 (try simp only [List.getElem_toArray, List.getElem_cons_zero, List.getElem_cons_succ, Act.put, List.setIfInBounds_toArray, List.set_cons_zero, List.set_cons_succ])
 refine wpAnyH_take (i := 38) (oi := _) (v := ?v38) rfl (by kernel_rfl) (by kernel_rfl) (by kernel_rfl) (fun _ _ _ h => h) (Or.inl ⟨by rfl, ?hy38⟩) (by assumption) ?rest38
 case hy38 => (intro w hSw; (try dsimp only at hSw); go_simp; (try with_reducible rfl))
 (try simp only [List.getElem_toArray, List.getElem_cons_zero, List.getElem_cons_succ, Act.put, List.setIfInBounds_toArray, List.set_cons_zero, List.set_cons_succ])
 refine wpAnyH_take (i := 39) (oi := _) (v := ?v39) rfl (by kernel_rfl) (by kernel_rfl) (by kernel_rfl) (fun _ _ _ h => h) (Or.inl ⟨by rfl, ?hy39⟩) (by assumption) ?rest39
 case hy39 => (intro w hSw; (try dsimp only at hSw); go_simp; (try with_reducible rfl))
 (try simp only [List.getElem_toArray, List.getElem_cons_zero, List.getElem_cons_succ, Act.put, List.setIfInBounds_toArray, List.set_cons_zero, List.set_cons_succ])
 refine wpAnyH_take (i := 40) (oi := _) (v := ?v40) rfl (by kernel_rfl) (by kernel_rfl) (by kernel_rfl) (fun _ _ _ h => h) (Or.inl ⟨by rfl, ?hy40⟩) (by assumption) ?rest40
 case hy40 => (intro w hSw; (try dsimp only at hSw); go_simp; (try with_reducible rfl))
 (try simp only [List.getElem_toArray, List.getElem_cons_zero, List.getElem_cons_succ, Act.put, List.setIfInBounds_toArray, List.set_cons_zero, List.set_cons_succ])
 refine wpAnyH_take (i := 41) (oi := _) (v := ?v41) rfl (by kernel_rfl) (by kernel_rfl) (by kernel_rfl) (fun _ _ _ h => h) (Or.inl ⟨by rfl, ?hy41⟩) (by assumption) ?rest41
 case hy41 => (intro w hSw; (try dsimp only at hSw); go_simp; (try with_reducible rfl))
 (try simp only [List.getElem_toArray, List.getElem_cons_zero, List.getElem_cons_succ, Act.put, List.setIfInBounds_toArray, List.set_cons_zero, List.set_cons_succ])
 refine wpAnyH_take (i := 42) (oi := _) (v := ?v42) rfl (by kernel_rfl) (by kernel_rfl) (by kernel_rfl) (fun _ _ _ h => h) (Or.inl ⟨by rfl, ?hy42⟩) (by assumption) ?rest42
 case hy42 => (intro w hSw; (try dsimp only at hSw); go_simp; (try with_reducible rfl))
 (try simp only [List.getElem_toArray, List.getElem_cons_zero, List.getElem_cons_succ, Act.put, List.setIfInBounds_toArray, List.set_cons_zero, List.set_cons_succ])
 refine wpAnyH_ready (rs := [43]) (by kernel_rfl) (by simp) ?_
 refine AllReadyH.cons (o := _) rfl (fun K hK => ?_) AllReadyH.nil
 go_simp
 refine hK.out _ _ ?_ (fun hHeld => ?_)
 ·exact hSA.out _ (hAcc.alloc hAcc.size _)
 clear hK K
 (try simp only [List.getElem_toArray, List.getElem_cons_zero, List.getElem_cons_succ, Act.put, List.setIfInBounds_toArray, List.set_cons_zero, List.set_cons_succ])
 refine wpAnyH_ready (rs := [44]) (by kernel_rfl) (by simp) ?_
 refine AllReadyH.cons (o := _) rfl (fun K hK => ?_) AllReadyH.nil
 go_simp
 refine (HE3.out _ hAcc).mono ?_
 rintro en w2 ⟨rfl, hB2⟩
 replace hAcc := hAcc.trans (hB2.mono hAcc.size)
 clear hB2
 (try go_wp2_with fail)
 refine hK.out _ _ ?_ (fun hHeld => ?_)
 ·exact hSA.out _ hAcc
 clear hK K
 (try simp only [List.getElem_toArray, List.getElem_cons_zero, List.getElem_cons_succ, Act.put, List.setIfInBounds_toArray, List.set_cons_zero, List.set_cons_succ])
 refine wpAnyH_take (i := 45) (oi := _) (v := ?v45) rfl (by kernel_rfl) (by kernel_rfl) (by kernel_rfl) (fun _ _ _ h => h) (Or.inl ⟨by rfl, ?hy45⟩) (by assumption) ?rest45
 case hy45 => (intro w hSw; (try dsimp only at hSw); go_simp; (try with_reducible rfl))
 (try simp only [List.getElem_toArray, List.getElem_cons_zero, List.getElem_cons_succ, Act.put, List.setIfInBounds_toArray, List.set_cons_zero, List.set_cons_succ])
 refine wpAnyH_take (i := 46) (oi := _) (v := ?v46) rfl (by kernel_rfl) (by kernel_rfl) (by kernel_rfl) (fun _ _ _ h => h) (Or.inl ⟨by rfl, ?hy46⟩) (by assumption) ?rest46
 case hy46 => (intro w hSw; (try dsimp only at hSw); go_simp; (try with_reducible rfl))
 (try simp only [List.getElem_toArray, List.getElem_cons_zero, List.getElem_cons_succ, Act.put, List.setIfInBounds_toArray, List.set_cons_zero, List.set_cons_succ])
 refine wpAnyH_done (by kernel_rfl) ?_ _
 refine NoPanic.normal ?_
 go_wp2
 go_ret
 exact ⟨rfl, HBf.out.trans (hAcc.mono (by have := HBf.out.size; omega))⟩
end Go.Proofs.YtbnpjoiojhnimaaGreatDoor
