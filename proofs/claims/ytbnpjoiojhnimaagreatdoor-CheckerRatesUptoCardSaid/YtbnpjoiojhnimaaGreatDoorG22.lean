import Derived.Test.YtbnpjoiojhnimaaGreatDoorG21
import Derived.Laws.ResultCell
import Derived.Great.BuildSlice
import Derived.Laws.CopyOwn
import Derived.Test.YtbnpjoiojhnimaaGreatDoorG6
import Derived.Test.YtbnpjoiojhnimaaGreatDoorG17
import Derived.Deep.RegionHeld
import Derived.Test.YtbnpjoiojhnimaaGreatDoorG13
import Derived.Test.YtbnpjoiojhnimaaGreatDoorG19
import Derived.Test.YtbnpjoiojhnimaaGreatDoorG3
import Derived.BigQuiet
import Derived.Test.YtbnpjoiojhnimaaGreatDoorG9
import Derived.Test.YtbnpjoiojhnimaaGreatDoorG5
import Derived.Test.YtbnpjoiojhnimaaGreatDoorG4
import Derived.Test.YtbnpjoiojhnimaaGreatDoorG14
set_option linter.unusedSimpArgs false
set_option linter.unusedVariables false
/- checker.Rate where 'Refute' finds a refusal: its contract. -/
namespace Go.Proofs.YtbnpjoiojhnimaaGreatDoor
open Go.RowKit Go.Shelf
theorem certSize : (Tryz.prog.info? 38).map (·.size) = some 19 := by kernel_rfl
theorem ret_cert {fn : Func} {p u : Tmp} (h : fn.results = #[.cell p 38, .tmp u]) (tmps : Array Value) (w : World) (g : Nat) (cs : Array Value) (hp : tmps.getD p undef = .pointer (some ⟨g, 0, none⟩)) (hg : w.heap[g]? = some (.cells cs 38 (0, 0))) (hcs : cs.size = 19) :
  (results fn tmps).run Tryz.prog w = .ok (.tuple #[.agg cs, tmps.getD u undef]) w := by
 rw [results_cell_tmp h, hp]
 simp [asAddr, Result.andThen, run_loadVar_row w g 38 38 cs (0, 0) _ hg Tryz.underlying38 rfl (by rw [hcs]; exact certSize)]
set_option maxRecDepth 100000 in
set_option maxHeartbeats 4000000 in
theorem ckRate_ok (L : Int) (n m : Nat) (es : List Edg) (A : Option Addr) (c : Nat) (w : World) (hG : okG L (n : Int) es = true) (hM : okM (m : Int) = true) (hn0 : 0 < n) (hn : n ≤ 32) (he : ∀ e ∈ es, inE n e) (hr : RowE w A es) (hb : refB n es m (outV n m es) = true) :
  Calls Tryz.prog 15 #[.agg #[.int .i64 L, .int .i64 (n : Int), .slice A es.length c], .int .i64 (m : Int)] w fun e w' => ∃ G I, e = .returned (.tuple #[.agg #[.int .i64 2, .int .i64 L, .int .i64 (n : Int), .slice A es.length c, .int .i64 0, .slice none 0 0, .int .i64 0, .slice none 0 0, .int .i64 0, .int .i64 0, .slice none 0 0, .slice none 0 0, .int .i64 0, .slice none 0 0, .slice (some ⟨G, 0, none⟩) n n, .slice (some ⟨I, 0, none⟩) 1 1, .slice none 0 0, .slice none 0 0, .slice none 0 0], .int .i64 0]) ∧
   w.heap.size ≤ G ∧ w.heap.size ≤ I ∧ SRow w' G (rowL n (outV n m es)) ∧ I < w'.heap.size ∧ w'.cell? ⟨I, 0, none⟩ = some (.int .i64 (m : Int)) ∧ Below w.heap.size w w' := by
 have hB0 : Below w.heap.size w (w.alloc (.cells #[.int .i64 L, .int .i64 (n : Int), .slice A es.length c] 24)) := (Below.refl _ w).alloc (Nat.le_refl _) _
 have hb0 : (w.alloc (.cells #[.int .i64 L, .int .i64 (n : Int), .slice A es.length c] 24)).heap[w.heap.size]? = some (.cells #[.int .i64 L, .int .i64 (n : Int), .slice A es.length c] 24 (0, 0)) := heap_alloc_new w _
 have HR := hide (fun W (hW : Below w.heap.size w W) => show Calls Tryz.prog 8 #[.agg #[.int .i64 L, .int .i64 (n : Int), .slice A es.length c], .int .i64 (m : Int)] W (fun e w' => ∃ G, e = .returned (.tuple #[.slice (some ⟨G, 0, none⟩) n n, .int .i64 0]) ∧ Below W.heap.size W w' ∧ W.heap.size ≤ G ∧ SRow w' G (rowL n (outV n m es))) from by
  refine (evRefute_ok L n m es A c W hG hM hn0 hn he (hr.below hW)).mono ?_
  rintro e w' ⟨h1, h2⟩
  rcases h2 with ⟨_, G, rfl, h3, h4⟩ | ⟨h2, _⟩
  ·exact ⟨G, rfl, h1, h3, h4⟩
  ·rw [hb] at h2; cases h2)
 clear hr he hG hM hb
 obtain ⟨Z, hZ⟩ : ∃ Z, w.heap.size = Z := ⟨_, rfl⟩
 rw [hZ] at hb0
 have HZ := hide hZ
 clear hZ
 go_enter Tryz.func15, Tryz.ntmps15
 go_wp2_with fail
 try rw [HZ.out]
 have HS0 := hide (show (w.alloc (Obj.cells #[.int .i64 L, .int .i64 (n : Int), .slice A es.length c] 24)).heap.size = Z + 1 by rw [← HZ.out]; simp)
 generalize w.alloc (Obj.cells #[.int .i64 L, .int .i64 (n : Int), .slice A es.length c] 24) = W0 at hb0 hB0 HS0 ⊢
 have hs0 : W0.heap.size = Z + 1 := HS0.out
 obtain ⟨CZ, hCZ⟩ : ∃ CZ : Array Value, CZ = #[.int .i64 0, .int .i64 0, .int .i64 0, .slice none 0 0, .int .i64 0, .slice none 0 0, .int .i64 0, .slice none 0 0, .int .i64 0, .int .i64 0, .slice none 0 0, .slice none 0 0, .int .i64 0, .slice none 0 0, .slice none 0 0, .slice none 0 0, .slice none 0 0, .slice none 0 0, .slice none 0 0] := ⟨_, rfl⟩
 rw [← hCZ]
 have hA : Below W0.heap.size W0 (W0.alloc (.cells CZ 38)) := (Below.refl _ W0).alloc (Nat.le_refl _) _
 have hbC : (W0.alloc (.cells CZ 38)).heap[Z + 1]? = some (.cells CZ 38 (0, 0)) := by rw [← hs0]; exact heap_alloc_new W0 _
 have hb1 := (hA.block Z (by omega)).trans hb0
 have hB1 := hB0.trans (hA.mono hB0.size)
 have hs1 : (W0.alloc (.cells CZ 38)).heap.size = Z + 2 := by rw [show Z + 2 = (Z + 1) + 1 from rfl, ← hs0]; simp
 generalize W0.alloc (.cells CZ 38) = W1 at hbC hb1 hB1 hs1 ⊢
 (with_reducible refine (HR.out W1 hB1).mono ?_)
 rintro e w2 ⟨G, rfl, hB2, hG, hRow⟩
 have hb2 := (hB2.block Z (by omega)).trans hb1
 have hbC2 := (hB2.block (Z + 1) (by omega)).trans hbC
 have g0 : w2.cell? ⟨Z, 0, none⟩ = some (.int .i64 L) := by rw [cell_of_row _ _ 0 _ 24 (0, 0) hb2]; rfl
 have g1 : w2.cell? ⟨Z, 1, none⟩ = some (.int .i64 (n : Int)) := by rw [cell_of_row _ _ 1 _ 24 (0, 0) hb2]; rfl
 have g2 : w2.cell? ⟨Z, 2, none⟩ = some (.slice A es.length c) := by rw [cell_of_row _ _ 2 _ 24 (0, 0) hb2]; rfl
 have HB2 := hide (hB1.trans (hB2.mono hB1.size))
 have HRow := hide hRow
 clear hb0 hb1 hbC hB0 hA HR hB1 hB2 hRow hs0 hb2
 have hCs : CZ.size = 19 := by rw [hCZ]; rfl
 clear hCZ
 obtain ⟨I, hI⟩ : ∃ I, w2.heap.size = I := ⟨_, rfl⟩
 have hA3 : Below I w2 (w2.alloc (.cells #[.int .i64 (m : Int)] 3)) := by rw [← hI]; exact (Below.refl _ w2).alloc (Nat.le_refl _) _
 have hI0 : (w2.alloc (.cells #[.int .i64 (m : Int)] 3)).heap[I]? = some (.cells #[.int .i64 (m : Int)] 3 (0, 0)) := by rw [← hI]; exact heap_alloc_new w2 _
 have hZI : Z + 2 ≤ I := by rw [← hI]; have := HB2.out.size; have := block_lt_of_cell g0; have := (Array.getElem?_eq_some_iff.1 hbC2).1; omega
 have hbC3 := (hA3.block (Z + 1) (by omega)).trans hbC2
 have HI := hide hI
 clear hI
 go_wp2_with (refine wpList_store_rowTo (by rfl) 38 _ _ (by rfl) (by rfl) (Z + 1) #[.int .i64 2, .int .i64 L, .int .i64 (n : Int), .slice A es.length c, .int .i64 0, .slice none 0 0, .int .i64 0, .slice none 0 0, .int .i64 0, .int .i64 0, .slice none 0 0, .slice none 0 0, .int .i64 0, .slice none 0 0, .slice (some ⟨G, 0, none⟩) n n, .slice (some ⟨w2.heap.size, 0, none⟩) 1 1, .slice none 0 0, .slice none 0 0, .slice none 0 0] (by rfl) (by rfl) 38 CZ hbC3 (by kernel_rfl) hCs (by kernel_rfl) ?_)
 refine bodyPost_ret (ret_cert rfl _ _ (Z + 1) _ rfl (setRow_heap _ _ CZ _ 38 (0, 0) hbC3) rfl) rfl ?_
 have hGZ : G ≠ Z + 1 := by omega
 have hIZ : I ≠ Z + 1 := by omega
 have hGI : G < I := by rw [← HI.out]; exact HRow.out.lt
 refine ⟨G, I, by rw [← HI.out]; rfl, by rw [HZ.out]; omega, by rw [HZ.out]; omega, ?_, ?_, ?_, ?_⟩
 ·exact (setRow_other _ _ _ _ hGZ).trans ((hA3.block G hGI).trans HRow.out)
 ·rw [setRow_size]; exact (Array.getElem?_eq_some_iff.1 hI0).1
 ·rw [cell_setRow_other _ _ _ _ hIZ, cell_of_row _ _ 0 _ 3 (0, 0) hI0]; rfl
 ·exact below_setRow (HB2.out.trans (hA3.mono (by rw [HZ.out]; omega))) (by rw [HZ.out]; omega) _
def kindsV : Array Value := #[.nilFunc, .nilFunc, .func (.func 36) #[] #[], .func (.func 37) #[] #[], .func (.func 38) #[] #[], .func (.func 39) #[] #[], .func (.func 40) #[] #[], .func (.func 41) #[] #[], .func (.func 42) #[] #[], .func (.func 43) #[] #[], .func (.func 44) #[] #[], .func (.func 45) #[] #[], .func (.func 46) #[] #[], .func (.func 47) #[] #[], .func (.func 48) #[] #[], .func (.func 49) #[] #[], .func (.func 50) #[] #[], .func (.func 51) #[] #[], .func (.func 52) #[] #[], .func (.func 53) #[] #[], .func (.func 54) #[] #[], .func (.func 55) #[] #[]]
def kindsZ : Array Value := #[.nilFunc, .nilFunc, .nilFunc, .nilFunc, .nilFunc, .nilFunc, .nilFunc, .nilFunc, .nilFunc, .nilFunc, .nilFunc, .nilFunc, .nilFunc, .nilFunc, .nilFunc, .nilFunc, .nilFunc, .nilFunc, .nilFunc, .nilFunc, .nilFunc, .nilFunc]
set_option maxRecDepth 100000 in
set_option maxHeartbeats 4000000 in
theorem ckKinds_any (w : World) :
  Calls Tryz.prog 13 #[] w fun e w' => e = .returned (.agg kindsV) ∧ Below w.heap.size w w' := by
 have hA : Below w.heap.size w (w.alloc (.cells kindsZ 59)) := (Below.refl _ w).alloc (Nat.le_refl _) _
 have hN : (w.alloc (.cells kindsZ 59)).heap[w.heap.size]? = some (.cells kindsZ 59 (0, 0)) := heap_alloc_new w _
 go_enter Tryz.func13, Tryz.ntmps13
 go_wp2_with (refine wpList_store_rowTo (by rfl) 59 _ _ (by rfl) (by rfl) w.heap.size kindsV (by rfl) (by rfl) 59 kindsZ hN (by kernel_rfl) (by rfl) (by kernel_rfl) ?_)
 refine bodyPost_ret (results_cell_row rfl _ _ w.heap.size 59 kindsV (0, 0) _ rfl (setRow_heap _ _ kindsZ _ 59 (0, 0) hN) Tryz.underlying59 rfl (by kernel_rfl)) rfl ?_
 exact ⟨rfl, below_setRow hA (Nat.le_refl _) _⟩
def CrtAt (w : World) (R : Nat) (x : Crt) : Prop := w.heap[R]? = some (.cells x.cells 38 (0, 0))
theorem CrtAt.cell {w : World} {R : Nat} {x : Crt} (h : CrtAt w R x) (j : Nat) : w.cell? ⟨R, j, none⟩ = x.cells[j]? := cell_of_row _ _ _ _ 38 (0, 0) h
theorem CrtAt.free_ {w : World} {R : Nat} {x : Crt} (h : CrtAt w R x) (j : Nat) : w.frozen? ⟨R, j, none⟩ = false := by unfold CrtAt at h; simp [World.frozen?, h]
theorem CrtAt.lt {w : World} {R : Nat} {x : Crt} (h : CrtAt w R x) : R < w.heap.size := (Array.getElem?_eq_some_iff.1 h).1
theorem CrtAt.below {B R : Nat} {w w' : World} {x : Crt} (h : CrtAt w R x) (hb : Below B w w') (hg : R < B) : CrtAt w' R x := (hb.block R hg).trans h
def Crt.clear2 (x : Crt) : Crt := { x with gl := 0, gs := 0, ge := .nil, ix := .nil, nu := .nil }
def Crt.clear3 (x : Crt) : Crt := { x with cl := 0, cw := .nil, wo := .nil }
def Crt.clear4 (x : Crt) : Crt := { x with cl := 0, cw := .nil, wo := .nil, ro := .nil }
theorem row_set {w : World} {R : Nat} {cs : Array Value} {t : TypeId} {fr : Nat × Nat} (h : w.heap[R]? = some (.cells cs t fr)) (j : Nat) (v : Value) : (w.setCell ⟨R, j, none⟩ v).heap[R]? = some (.cells (cs.setIfInBounds j v) t fr) := by
 simp [World.setCell, Array.getElem?_modify, h]
set_option maxRecDepth 100000 in
set_option maxHeartbeats 4000000 in
theorem ckClear2_any (x : Crt) (R : Nat) (w : World) (h : CrtAt w R x) :
  Calls Tryz.prog 38 #[.pointer (some ⟨R, 0, none⟩)] w fun e w' => e = .returned (.tuple #[]) ∧ CrtAt w' R x.clear2 ∧ Below R w w' := by
 have c1 := h.cell 1
 have z1 := h.free_ 1
 rw [show x.cells[1]? = some (.int .i64 x.gl) from rfl] at c1
 have c2 := h.cell 2
 have z2 := h.free_ 2
 rw [show x.cells[2]? = some (.int .i64 x.gs) from rfl] at c2
 have c3 := h.cell 3
 have z3 := h.free_ 3
 rw [show x.cells[3]? = some x.ge.v from rfl] at c3
 have c15 := h.cell 15
 have z15 := h.free_ 15
 rw [show x.cells[15]? = some x.ix.v from rfl] at c15
 have c14 := h.cell 14
 have z14 := h.free_ 14
 rw [show x.cells[14]? = some x.nu.v from rfl] at c14
 have H := hide h
 clear h
 go_enter Tryz.func38, Tryz.ntmps38
 go_wp2
 go_end0
 exact ⟨rfl, (row_set (row_set (row_set (row_set (row_set H.out 1 (.int .i64 0)) 2 (.int .i64 0)) 3 (.slice none 0 0)) 15 (.slice none 0 0)) 14 (.slice none 0 0)), (Below.setCell (Below.setCell (Below.setCell (Below.setCell (Below.setCell (Below.refl R w) (p := ⟨R, 1, none⟩) (Nat.le_refl _) (.int .i64 0)) (p := ⟨R, 2, none⟩) (Nat.le_refl _) (.int .i64 0)) (p := ⟨R, 3, none⟩) (Nat.le_refl _) (.slice none 0 0)) (p := ⟨R, 15, none⟩) (Nat.le_refl _) (.slice none 0 0)) (p := ⟨R, 14, none⟩) (Nat.le_refl _) (.slice none 0 0))⟩
set_option maxRecDepth 100000 in
set_option maxHeartbeats 4000000 in
theorem ckClear3_any (x : Crt) (R : Nat) (w : World) (h : CrtAt w R x) :
  Calls Tryz.prog 40 #[.pointer (some ⟨R, 0, none⟩)] w fun e w' => e = .returned (.tuple #[]) ∧ CrtAt w' R x.clear3 ∧ Below R w w' := by
 have c4 := h.cell 4
 have z4 := h.free_ 4
 rw [show x.cells[4]? = some (.int .i64 x.cl) from rfl] at c4
 have c5 := h.cell 5
 have z5 := h.free_ 5
 rw [show x.cells[5]? = some x.cw.v from rfl] at c5
 have c16 := h.cell 16
 have z16 := h.free_ 16
 rw [show x.cells[16]? = some x.wo.v from rfl] at c16
 have H := hide h
 clear h
 go_enter Tryz.func40, Tryz.ntmps40
 go_wp2
 go_end0
 exact ⟨rfl, (row_set (row_set (row_set H.out 4 (.int .i64 0)) 5 (.slice none 0 0)) 16 (.slice none 0 0)), (Below.setCell (Below.setCell (Below.setCell (Below.refl R w) (p := ⟨R, 4, none⟩) (Nat.le_refl _) (.int .i64 0)) (p := ⟨R, 5, none⟩) (Nat.le_refl _) (.slice none 0 0)) (p := ⟨R, 16, none⟩) (Nat.le_refl _) (.slice none 0 0))⟩
set_option maxRecDepth 100000 in
set_option maxHeartbeats 4000000 in
theorem ckClear4_any (x : Crt) (R : Nat) (w : World) (h : CrtAt w R x) :
  Calls Tryz.prog 42 #[.pointer (some ⟨R, 0, none⟩)] w fun e w' => e = .returned (.tuple #[]) ∧ CrtAt w' R x.clear4 ∧ Below R w w' := by
 have c4 := h.cell 4
 have z4 := h.free_ 4
 rw [show x.cells[4]? = some (.int .i64 x.cl) from rfl] at c4
 have c5 := h.cell 5
 have z5 := h.free_ 5
 rw [show x.cells[5]? = some x.cw.v from rfl] at c5
 have c16 := h.cell 16
 have z16 := h.free_ 16
 rw [show x.cells[16]? = some x.wo.v from rfl] at c16
 have c17 := h.cell 17
 have z17 := h.free_ 17
 rw [show x.cells[17]? = some x.ro.v from rfl] at c17
 have H := hide h
 clear h
 go_enter Tryz.func42, Tryz.ntmps42
 go_wp2
 go_end0
 exact ⟨rfl, (row_set (row_set (row_set (row_set H.out 4 (.int .i64 0)) 5 (.slice none 0 0)) 16 (.slice none 0 0)) 17 (.slice none 0 0)), (Below.setCell (Below.setCell (Below.setCell (Below.setCell (Below.refl R w) (p := ⟨R, 4, none⟩) (Nat.le_refl _) (.int .i64 0)) (p := ⟨R, 5, none⟩) (Nat.le_refl _) (.slice none 0 0)) (p := ⟨R, 16, none⟩) (Nat.le_refl _) (.slice none 0 0)) (p := ⟨R, 17, none⟩) (Nat.le_refl _) (.slice none 0 0))⟩
def gr23 (S : Int) (n : Nat) : Bool := (decide (6 < S) && decide (S ≤ 64)) || (decide (30 < n) && decide (n ≤ 1024)) || decide (1027 < n)
set_option maxRecDepth 100000 in
set_option maxHeartbeats 4000000 in
theorem great23_any (L S : Int) (n c : Nat) (A : Option Addr) (w : World) :
  Calls Tryz.prog 12 #[.agg #[.int .i64 L, .int .i64 S, .slice A n c]] w fun e w' => e = .returned (.bool (gr23 S n)) ∧ Below w.heap.size w w' := by
 have hA : Below w.heap.size w (w.alloc (.cells #[.int .i64 L, .int .i64 S, .slice A n c] 24)) := (Below.refl _ w).alloc (Nat.le_refl _) _
 have hb : (w.alloc (.cells #[.int .i64 L, .int .i64 S, .slice A n c] 24)).heap[w.heap.size]? = some (.cells #[.int .i64 L, .int .i64 S, .slice A n c] 24 (0, 0)) := heap_alloc_new w _
 have c1 : (w.alloc (.cells #[.int .i64 L, .int .i64 S, .slice A n c] 24)).cell? ⟨w.heap.size, 1, none⟩ = some (.int .i64 S) := (cell_of_row _ _ 1 _ 24 (0, 0) hb).trans rfl
 have c2 : (w.alloc (.cells #[.int .i64 L, .int .i64 S, .slice A n c] 24)).cell? ⟨w.heap.size, 2, none⟩ = some (.slice A n c) := (cell_of_row _ _ 2 _ 24 (0, 0) hb).trans rfl
 unfold gr23
 clear hb
 have e1 : ∀ m : Nat, decide ((m : Int) < (n : Int)) = decide (m < n) := fun m => by simp
 obtain ⟨a, ha⟩ : ∃ a, decide (6 < S) = a := ⟨_, rfl⟩
 obtain ⟨b, hb⟩ : ∃ b, decide (S ≤ 64) = b := ⟨_, rfl⟩
 obtain ⟨d, hd⟩ : ∃ d, decide (30 < n) = d := ⟨_, rfl⟩
 obtain ⟨f, hf⟩ : ∃ f, decide (n ≤ 1024) = f := ⟨_, rfl⟩
 obtain ⟨g, hg⟩ : ∃ g, decide (1027 < n) = g := ⟨_, rfl⟩
 have hd' : decide ((30 : Int) < (n : Int)) = d := (e1 30).trans hd
 have hg' : decide ((1027 : Int) < (n : Int)) = g := (e1 1027).trans hg
 have hf' : decide ((n : Int) ≤ 1024) = f := by rw [← hf]; exact decide_eq_decide.2 (by omega)
 rw [ha, hb, hd, hf, hg]
 clear e1
 cases a <;> cases b <;> cases d <;> cases f <;> cases g <;> (
  go_enter Tryz.func12, Tryz.ntmps12
  go_wp2
  go_ret
  exact ⟨rfl, hA⟩)
def LenR (w : World) (A : Option Addr) (ls : List Nat) : Prop := 0 < ls.length → ∃ b o, A = some ⟨b, o, none⟩ ∧ b < w.heap.size ∧ ∀ k (hk : k < ls.length), ∃ D c, w.cell? ⟨b, o + k, none⟩ = some (.slice D ls[k] c)
def LenM (w : World) (A : Option Addr) (ms : List ByteArray) : Prop := 0 < ms.length → ∃ b o, A = some ⟨b, o, none⟩ ∧ b < w.heap.size ∧ ∀ k (hk : k < ms.length), w.cell? ⟨b, o + k * 2 + 1, none⟩ = some (.string ms[k])
theorem LenR.below {w w' : World} {A : Option Addr} {ls : List Nat} (h : LenR w A ls) (hB : Below w.heap.size w w') : LenR w' A ls := by
 intro h0
 obtain ⟨b, o, h1, h2, h3⟩ := h h0
 exact ⟨b, o, h1, Nat.lt_of_lt_of_le h2 hB.size, fun k hk => by obtain ⟨D, c, h4⟩ := h3 k hk; exact ⟨D, c, (hB.cell (p := ⟨b, o + k, none⟩) h2).trans h4⟩⟩
theorem LenM.below {w w' : World} {A : Option Addr} {ms : List ByteArray} (h : LenM w A ms) (hB : Below w.heap.size w w') : LenM w' A ms := by
 intro h0
 obtain ⟨b, o, h1, h2, h3⟩ := h h0
 exact ⟨b, o, h1, Nat.lt_of_lt_of_le h2 hB.size, fun k hk => (hB.cell (p := ⟨b, o + k * 2 + 1, none⟩) h2).trans (h3 k hk)⟩
structure CrtL (w : World) (x : Crt) (rl : List Nat) (xs : List ByteArray) (ml : List Nat) (ms : List ByteArray) (ws : List ByteArray) (rs : List Nat) (ts : List Nat) : Prop where
 n_pr : x.pr.n = rl.length
 r_pr : LenR w x.pr.A rl
 b_pr : rl.length ≤ 9223372036854775807
 n_cw : x.cw.n = xs.length
 r_cw : RowT w x.cw.A xs
 b_cw : xs.length ≤ 9223372036854775807
 n_mn : x.mn.n = ml.length
 r_mn : LenR w x.mn.A ml
 b_mn : ml.length ≤ 9223372036854775807
 n_nu : x.nu.n = ms.length
 r_nu : LenM w x.nu.A ms
 b_nu : ms.length ≤ 9223372036854775807
 n_wo : x.wo.n = ws.length
 r_wo : RowT w x.wo.A ws
 b_wo : ws.length ≤ 9223372036854775807
 n_ro : x.ro.n = rs.length
 r_ro : LenR w x.ro.A rs
 b_ro : rs.length ≤ 9223372036854775807
 n_ta : x.ta.n = ts.length
 r_ta : LenR w x.ta.A ts
 b_ta : ts.length ≤ 9223372036854775807
 b_pw : x.pw.n ≤ 9223372036854775807
 b_ix : x.ix.n ≤ 9223372036854775807
structure CrtM (x : Crt) (rl : List Nat) (xs : List ByteArray) (ml : List Nat) (ms : List ByteArray) (ws : List ByteArray) (rs : List Nat) (ts : List Nat) : Prop where
 g1 : gr23 x.gs x.ge.n = false
 g2 : gr23 x.ps x.pe.n = false
 pw : x.pw.n ≤ 8
 ix : x.ix.n ≤ 10
 l_pr : rl.length ≤ 8
 i_pr : ∀ j (hj : j < rl.length), rl[j] ≤ 16
 l_cw : xs.length ≤ 8
 i_cw : ∀ j (hj : j < xs.length), xs[j].size ≤ 8
 l_mn : ml.length ≤ 5
 i_mn : ∀ j (hj : j < ml.length), ml[j] ≤ 4
 l_nu : ms.length ≤ 6
 i_nu : ∀ j (hj : j < ms.length), ms[j].size ≤ 8
 l_wo : ws.length ≤ 40
 i_wo : ∀ j (hj : j < ws.length), ws[j].size ≤ 40
 l_ro : rs.length ≤ 24
 i_ro : ∀ j (hj : j < rs.length), rs[j] ≤ 40
 l_ta : ts.length ≤ 12
 i_ta : ∀ j (hj : j < ts.length), ts[j] ≤ 60
set_option maxRecDepth 100000 in
set_option maxHeartbeats 8000000 in
theorem great59_any (x : Crt) (rl : List Nat) (xs : List ByteArray) (ml : List Nat) (ms : List ByteArray) (ws : List ByteArray) (rs : List Nat) (ts : List Nat) (w : World) (hL : CrtL w x rl xs ml ms ws rs ts) :
  Calls Tryz.prog 4 #[.agg x.cells] w fun e w' => ∃ r, e = .returned (.bool r) ∧ (r = false → CrtM x rl xs ml ms ws rs ts) ∧ Below w.heap.size w w' := by
 obtain ⟨kd, gl, gs, ⟨gA, gn, gc⟩, cl, ⟨cwA, cwN, cwC⟩, mz, ⟨mnA, mnN, mnC⟩, pl, ps, ⟨pA, pn, pc⟩, ⟨pwA, pwn, pwC⟩, pi, ⟨prA, prN, prC⟩, ⟨nuA, nuN, nuC⟩, ⟨ixA, ixn, ixC⟩, ⟨woA, woN, woC⟩, ⟨roA, roN, roC⟩, ⟨taA, taN, taC⟩⟩ := x
 obtain ⟨npr, rpr, bpr, ncw, rcw, bcw, nmn, rmn, bmn, nnu, rnu, bnu, nwo, rwo, bwo, nro, rro, bro, nta, rta, bta, bpw, bix⟩ := hL
 dsimp only at npr rpr ncw rcw nmn rmn nnu rnu nwo rwo nro rro nta rta bpw bix
 subst npr ncw nmn nnu nwo nro nta
 generalize hCX : Crt.cells _ = CX
 have hA : Below w.heap.size w (w.alloc (.cells CX 38)) := (Below.refl _ w).alloc (Nat.le_refl _) _
 have hb : (w.alloc (.cells CX 38)).heap[w.heap.size]? = some (.cells CX 38 (0, 0)) := heap_alloc_new w _
 have HG := hide (fun (L S : Int) (n c : Nat) (A : Option Addr) W => great23_any L S n c A W)
 have v1 : CX[1]? = some (.int .i64 gl) := by rw [← hCX]; rfl
 have v2 : CX[2]? = some (.int .i64 gs) := by rw [← hCX]; rfl
 have v3 : CX[3]? = some (.slice gA gn gc) := by rw [← hCX]; rfl
 have v5 : CX[5]? = some (.slice cwA xs.length cwC) := by rw [← hCX]; rfl
 have v7 : CX[7]? = some (.slice mnA ml.length mnC) := by rw [← hCX]; rfl
 have v8 : CX[8]? = some (.int .i64 pl) := by rw [← hCX]; rfl
 have v9 : CX[9]? = some (.int .i64 ps) := by rw [← hCX]; rfl
 have v10 : CX[10]? = some (.slice pA pn pc) := by rw [← hCX]; rfl
 have v11 : CX[11]? = some (.slice pwA pwn pwC) := by rw [← hCX]; rfl
 have v13 : CX[13]? = some (.slice prA rl.length prC) := by rw [← hCX]; rfl
 have v14 : CX[14]? = some (.slice nuA ms.length nuC) := by rw [← hCX]; rfl
 have v15 : CX[15]? = some (.slice ixA ixn ixC) := by rw [← hCX]; rfl
 have v16 : CX[16]? = some (.slice woA ws.length woC) := by rw [← hCX]; rfl
 have v17 : CX[17]? = some (.slice roA rs.length roC) := by rw [← hCX]; rfl
 have v18 : CX[18]? = some (.slice taA ts.length taC) := by rw [← hCX]; rfl
 have d1 : (w.alloc (.cells CX 38)).cell? ⟨w.heap.size, 1, none⟩ = some (.int .i64 gl) := (cell_of_row _ _ 1 _ 38 (0, 0) hb).trans v1
 have d2 : (w.alloc (.cells CX 38)).cell? ⟨w.heap.size, 2, none⟩ = some (.int .i64 gs) := (cell_of_row _ _ 2 _ 38 (0, 0) hb).trans v2
 have d3 : (w.alloc (.cells CX 38)).cell? ⟨w.heap.size, 3, none⟩ = some (.slice gA gn gc) := (cell_of_row _ _ 3 _ 38 (0, 0) hb).trans v3
 clear hCX
 have Rpr := hide (fun W (h : Below (w.alloc (.cells CX 38)).heap.size (w.alloc (.cells CX 38)) W) => (rpr.below hA).below h)
 have Rcw := hide (fun W (h : Below (w.alloc (.cells CX 38)).heap.size (w.alloc (.cells CX 38)) W) => (rcw.below hA).below h)
 have Rmn := hide (fun W (h : Below (w.alloc (.cells CX 38)).heap.size (w.alloc (.cells CX 38)) W) => (rmn.below hA).below h)
 have Rnu := hide (fun W (h : Below (w.alloc (.cells CX 38)).heap.size (w.alloc (.cells CX 38)) W) => (rnu.below hA).below h)
 have Rwo := hide (fun W (h : Below (w.alloc (.cells CX 38)).heap.size (w.alloc (.cells CX 38)) W) => (rwo.below hA).below h)
 have Rro := hide (fun W (h : Below (w.alloc (.cells CX 38)).heap.size (w.alloc (.cells CX 38)) W) => (rro.below hA).below h)
 have Rta := hide (fun W (h : Below (w.alloc (.cells CX 38)).heap.size (w.alloc (.cells CX 38)) W) => (rta.below hA).below h)
 clear rpr rcw rmn rnu rwo rro rta
 go_enter Tryz.func4, Tryz.ntmps4
 go_wp2_with fail
 generalize (w.alloc (.cells CX 38)) = W0 at hA hb d1 d2 d3 Rpr Rcw Rmn Rnu Rwo Rro Rta ⊢
 obtain ⟨Z, hZ⟩ : ∃ Z, w.heap.size = Z := ⟨_, rfl⟩
 rw [hZ] at hb d1 d2 d3 ⊢
 have hZl : Z < W0.heap.size := (Array.getElem?_eq_some_iff.1 hb).1
 have HC := hide (fun W (h : Below W0.heap.size W0 W) => show W.heap[Z]? = some (.cells CX 38 (0, 0)) from (h.block Z hZl).trans hb)
 have HA := hide hA
 have HZ := hide hZ
 clear hA hb hZl hZ d1 d2 d3
 refine (HG.out _ _ _ _ _ _).mono ?_
 rintro e W1 ⟨rfl, hB1⟩
 have e8 := (cell_of_row W1 Z 8 _ 38 (0, 0) (HC.out W1 hB1)).trans v8
 have e9 := (cell_of_row W1 Z 9 _ 38 (0, 0) (HC.out W1 hB1)).trans v9
 have e10 := (cell_of_row W1 Z 10 _ 38 (0, 0) (HC.out W1 hB1)).trans v10
 obtain ⟨q1, hq1⟩ : ∃ q1, gr23 gs gn = q1 := ⟨_, rfl⟩
 rw [hq1]
 have HB1 := hide hB1
 clear hB1
 cases q1
 ·skip
  go_wp2_with fail
  refine (HG.out _ _ _ _ _ _).mono ?_
  rintro e W2 ⟨rfl, hB2⟩
  obtain ⟨q2, hq2⟩ : ∃ q2, gr23 ps pn = q2 := ⟨_, rfl⟩
  rw [hq2]
  have HB2 := hide (HB1.out.trans (hB2.mono HB1.out.size))
  have HEnd := hide (show Below w.heap.size w W2 from HA.out.trans (HB2.out.mono HA.out.size))
  have hb2 := HC.out W2 HB2.out
  clear e8 e9 e10 hB2
  have f11 := (cell_of_row W2 Z 11 _ 38 (0, 0) hb2).trans v11
  have f13 := (cell_of_row W2 Z 13 _ 38 (0, 0) hb2).trans v13
  have f5 := (cell_of_row W2 Z 5 _ 38 (0, 0) hb2).trans v5
  have f7 := (cell_of_row W2 Z 7 _ 38 (0, 0) hb2).trans v7
  have f14 := (cell_of_row W2 Z 14 _ 38 (0, 0) hb2).trans v14
  have f15 := (cell_of_row W2 Z 15 _ 38 (0, 0) hb2).trans v15
  have f16 := (cell_of_row W2 Z 16 _ 38 (0, 0) hb2).trans v16
  have f17 := (cell_of_row W2 Z 17 _ 38 (0, 0) hb2).trans v17
  have f18 := (cell_of_row W2 Z 18 _ 38 (0, 0) hb2).trans v18
  clear hb2
  have HQ1 := hide hq1
  have HQ2 := hide hq2
  clear hq1 hq2
  cases q2
  ·skip
   by_cases hpw : 8 < pwn
   ·have tpw : decide ((8 : Int) < ((pwn : Nat) : Int)) = true := decide_eq_true (by omega)
    go_wp2
    go_ret
    exact ⟨true, rfl, (fun h => Bool.noConfusion h), HEnd.out⟩
   have tpw : decide ((8 : Int) < ((pwn : Nat) : Int)) = false := decide_eq_false (by omega)
   have Kpw := hide (Nat.le_of_not_lt hpw)
   clear hpw
   by_cases hpr : 8 < rl.length
   ·have tpr : decide ((8 : Int) < ((rl.length : Nat) : Int)) = true := decide_eq_true (by omega)
    go_wp2
    go_ret
    exact ⟨true, rfl, (fun h => Bool.noConfusion h), HEnd.out⟩
   have tpr : decide ((8 : Int) < ((rl.length : Nat) : Int)) = false := decide_eq_false (by omega)
   have Kpr := hide (Nat.le_of_not_lt hpr)
   clear hpr
   by_cases hcw : 8 < xs.length
   ·have tcw : decide ((8 : Int) < ((xs.length : Nat) : Int)) = true := decide_eq_true (by omega)
    go_wp2
    go_ret
    exact ⟨true, rfl, (fun h => Bool.noConfusion h), HEnd.out⟩
   have tcw : decide ((8 : Int) < ((xs.length : Nat) : Int)) = false := decide_eq_false (by omega)
   have Kcw := hide (Nat.le_of_not_lt hcw)
   clear hcw
   by_cases hmn : 5 < ml.length
   ·have tmn : decide ((5 : Int) < ((ml.length : Nat) : Int)) = true := decide_eq_true (by omega)
    go_wp2
    go_ret
    exact ⟨true, rfl, (fun h => Bool.noConfusion h), HEnd.out⟩
   have tmn : decide ((5 : Int) < ((ml.length : Nat) : Int)) = false := decide_eq_false (by omega)
   have Kmn := hide (Nat.le_of_not_lt hmn)
   clear hmn
   by_cases hnu : 6 < ms.length
   ·have tnu : decide ((6 : Int) < ((ms.length : Nat) : Int)) = true := decide_eq_true (by omega)
    go_wp2
    go_ret
    exact ⟨true, rfl, (fun h => Bool.noConfusion h), HEnd.out⟩
   have tnu : decide ((6 : Int) < ((ms.length : Nat) : Int)) = false := decide_eq_false (by omega)
   have Knu := hide (Nat.le_of_not_lt hnu)
   clear hnu
   by_cases hix : 10 < ixn
   ·have tix : decide ((10 : Int) < ((ixn : Nat) : Int)) = true := decide_eq_true (by omega)
    go_wp2
    go_ret
    exact ⟨true, rfl, (fun h => Bool.noConfusion h), HEnd.out⟩
   have tix : decide ((10 : Int) < ((ixn : Nat) : Int)) = false := decide_eq_false (by omega)
   have Kix := hide (Nat.le_of_not_lt hix)
   clear hix
   by_cases hwo : 40 < ws.length
   ·have two : decide ((40 : Int) < ((ws.length : Nat) : Int)) = true := decide_eq_true (by omega)
    go_wp2
    go_ret
    exact ⟨true, rfl, (fun h => Bool.noConfusion h), HEnd.out⟩
   have two : decide ((40 : Int) < ((ws.length : Nat) : Int)) = false := decide_eq_false (by omega)
   have Kwo := hide (Nat.le_of_not_lt hwo)
   clear hwo
   by_cases hro : 24 < rs.length
   ·have tro : decide ((24 : Int) < ((rs.length : Nat) : Int)) = true := decide_eq_true (by omega)
    go_wp2
    go_ret
    exact ⟨true, rfl, (fun h => Bool.noConfusion h), HEnd.out⟩
   have tro : decide ((24 : Int) < ((rs.length : Nat) : Int)) = false := decide_eq_false (by omega)
   have Kro := hide (Nat.le_of_not_lt hro)
   clear hro
   by_cases hta : 12 < ts.length
   ·have tta : decide ((12 : Int) < ((ts.length : Nat) : Int)) = true := decide_eq_true (by omega)
    go_wp2
    go_ret
    exact ⟨true, rfl, (fun h => Bool.noConfusion h), HEnd.out⟩
   have tta : decide ((12 : Int) < ((ts.length : Nat) : Int)) = false := decide_eq_false (by omega)
   have Kta := hide (Nat.le_of_not_lt hta)
   clear hta
   go_wp2_with fail
   go_loopw [3] (fun iv wr => ∃ k : Nat, iv = .int .i64 k ∧ k ≤ rl.length ∧ Hid (∀ j (hj : j < rl.length), j < k → rl[j] ≤ 16) ∧ W2 = wr) (fun iv _ => rl.length - (intOf iv).toNat)
   case atStart => exact ⟨0, rfl, Nat.zero_le _, hide fun j _ h => absurd h (by omega), rfl⟩
   case round =>
    obtain ⟨k, rfl, hk, hK, rfl⟩ := hrel
    by_cases hlt : k < rl.length
    ·obtain ⟨b0, o0, hAe, ha, hcell⟩ := Rpr.out _ HB2.out (by omega)
     rw [hAe] at f13
     obtain ⟨D, c, c0⟩ := hcell k hlt
     obtain ⟨m, hm⟩ : ∃ m, m = rl[k] := ⟨_, rfl⟩
     rw [← hm] at c0
     have HM := hide hm
     have hk0 : (0 : Int) ≤ (k : Int) := by omega
     have hk1 : (k : Int) < (rl.length : Int) := by omega
     clear hcell hm hAe ha
     by_cases hB : 16 < m
     ·have hd : decide ((16 : Int) < ((m : Nat) : Int)) = true := decide_eq_true (by omega)
      go_wp2
      go_ret
      exact ⟨true, rfl, (fun h => Bool.noConfusion h), HEnd.out⟩
     ·have hd : decide ((16 : Int) < ((m : Nat) : Int)) = false := decide_eq_false (by omega)
      have HNB := hide hB
      clear hB
      go_wp2
      go_roundw
      case rel =>
       refine ⟨k + 1, by go_num, hlt, hide fun j hj hjk => ?_, by first | exact trivial | rfl⟩
       rcases Nat.lt_or_ge j k with h | h
       ·exact hK.out j hj h
       ·obtain rfl : j = k := by omega
        have h1 := HM.out
        have h2 := HNB.out
        rw [h1] at h2
        exact Nat.le_of_not_lt h2
      case measure => simp [intOf]; omega
    ·obtain he : k = rl.length := by omega
     subst he
     have KLpr := hide (show ∀ j (hj : j < rl.length), rl[j] ≤ 16 from fun j hj => hK.out j hj hj)
     clear hK hk hlt
     go_wp2
     go_loopw [4] (fun iv wr => ∃ k : Nat, iv = .int .i64 k ∧ k ≤ xs.length ∧ Hid (∀ j (hj : j < xs.length), j < k → xs[j].size ≤ 8) ∧ W2 = wr) (fun iv _ => xs.length - (intOf iv).toNat)
     case atStart => exact ⟨0, rfl, Nat.zero_le _, hide fun j _ h => absurd h (by omega), rfl⟩
     case round =>
      obtain ⟨k, rfl, hk, hK, rfl⟩ := hrel
      by_cases hlt : k < xs.length
      ·obtain ⟨b0, o0, hAe, ha, hcell⟩ := Rcw.out _ HB2.out (by omega)
       rw [hAe] at f5
       have c0 := hcell k hlt
       obtain ⟨sv, hm⟩ : ∃ sv, sv = xs[k] := ⟨_, rfl⟩
       rw [← hm] at c0
       have HM := hide hm
       have hk0 : (0 : Int) ≤ (k : Int) := by omega
       have hk1 : (k : Int) < (xs.length : Int) := by omega
       clear hcell hm hAe ha
       by_cases hB : 8 < sv.size
       ·have hd : decide ((8 : Int) < ((sv.size : Nat) : Int)) = true := decide_eq_true (by omega)
        go_wp2
        go_ret
        exact ⟨true, rfl, (fun h => Bool.noConfusion h), HEnd.out⟩
       ·have hd : decide ((8 : Int) < ((sv.size : Nat) : Int)) = false := decide_eq_false (by omega)
        have HNB := hide hB
        clear hB
        go_wp2
        go_roundw
        case rel =>
         refine ⟨k + 1, by go_num, hlt, hide fun j hj hjk => ?_, by first | exact trivial | rfl⟩
         rcases Nat.lt_or_ge j k with h | h
         ·exact hK.out j hj h
         ·obtain rfl : j = k := by omega
          have h1 := HM.out
          have h2 := HNB.out
          rw [h1] at h2
          exact Nat.le_of_not_lt h2
        case measure => simp [intOf]; omega
      ·obtain he : k = xs.length := by omega
       subst he
       have KLcw := hide (show ∀ j (hj : j < xs.length), xs[j].size ≤ 8 from fun j hj => hK.out j hj hj)
       clear hK hk hlt
       go_wp2
       go_loopw [5] (fun iv wr => ∃ k : Nat, iv = .int .i64 k ∧ k ≤ ml.length ∧ Hid (∀ j (hj : j < ml.length), j < k → ml[j] ≤ 4) ∧ W2 = wr) (fun iv _ => ml.length - (intOf iv).toNat)
       case atStart => exact ⟨0, rfl, Nat.zero_le _, hide fun j _ h => absurd h (by omega), rfl⟩
       case round =>
        obtain ⟨k, rfl, hk, hK, rfl⟩ := hrel
        by_cases hlt : k < ml.length
        ·obtain ⟨b0, o0, hAe, ha, hcell⟩ := Rmn.out _ HB2.out (by omega)
         rw [hAe] at f7
         obtain ⟨D, c, c0⟩ := hcell k hlt
         obtain ⟨m, hm⟩ : ∃ m, m = ml[k] := ⟨_, rfl⟩
         rw [← hm] at c0
         have HM := hide hm
         have hk0 : (0 : Int) ≤ (k : Int) := by omega
         have hk1 : (k : Int) < (ml.length : Int) := by omega
         clear hcell hm hAe ha
         by_cases hB : 4 < m
         ·have hd : decide ((4 : Int) < ((m : Nat) : Int)) = true := decide_eq_true (by omega)
          go_wp2
          go_ret
          exact ⟨true, rfl, (fun h => Bool.noConfusion h), HEnd.out⟩
         ·have hd : decide ((4 : Int) < ((m : Nat) : Int)) = false := decide_eq_false (by omega)
          have HNB := hide hB
          clear hB
          go_wp2
          go_roundw
          case rel =>
           refine ⟨k + 1, by go_num, hlt, hide fun j hj hjk => ?_, by first | exact trivial | rfl⟩
           rcases Nat.lt_or_ge j k with h | h
           ·exact hK.out j hj h
           ·obtain rfl : j = k := by omega
            have h1 := HM.out
            have h2 := HNB.out
            rw [h1] at h2
            exact Nat.le_of_not_lt h2
          case measure => simp [intOf]; omega
        ·obtain he : k = ml.length := by omega
         subst he
         have KLmn := hide (show ∀ j (hj : j < ml.length), ml[j] ≤ 4 from fun j hj => hK.out j hj hj)
         clear hK hk hlt
         go_wp2
         go_loopw [6] (fun iv wr => ∃ k : Nat, iv = .int .i64 k ∧ k ≤ ms.length ∧ Hid (∀ j (hj : j < ms.length), j < k → ms[j].size ≤ 8) ∧ W2 = wr) (fun iv _ => ms.length - (intOf iv).toNat)
         case atStart => exact ⟨0, rfl, Nat.zero_le _, hide fun j _ h => absurd h (by omega), rfl⟩
         case round =>
          obtain ⟨k, rfl, hk, hK, rfl⟩ := hrel
          by_cases hlt : k < ms.length
          ·obtain ⟨b0, o0, hAe, ha, hcell⟩ := Rnu.out _ HB2.out (by omega)
           rw [hAe] at f14
           have c0 := hcell k hlt
           obtain ⟨sv, hm⟩ : ∃ sv, sv = ms[k] := ⟨_, rfl⟩
           rw [← hm] at c0
           have HM := hide hm
           have hk0 : (0 : Int) ≤ (k : Int) := by omega
           have hk1 : (k : Int) < (ms.length : Int) := by omega
           clear hcell hm hAe ha
           by_cases hB : 8 < sv.size
           ·have hd : decide ((8 : Int) < ((sv.size : Nat) : Int)) = true := decide_eq_true (by omega)
            go_wp2
            go_ret
            exact ⟨true, rfl, (fun h => Bool.noConfusion h), HEnd.out⟩
           ·have hd : decide ((8 : Int) < ((sv.size : Nat) : Int)) = false := decide_eq_false (by omega)
            have HNB := hide hB
            clear hB
            go_wp2
            go_roundw
            case rel =>
             refine ⟨k + 1, by go_num, hlt, hide fun j hj hjk => ?_, by first | exact trivial | rfl⟩
             rcases Nat.lt_or_ge j k with h | h
             ·exact hK.out j hj h
             ·obtain rfl : j = k := by omega
              have h1 := HM.out
              have h2 := HNB.out
              rw [h1] at h2
              exact Nat.le_of_not_lt h2
            case measure => simp [intOf]; omega
          ·obtain he : k = ms.length := by omega
           subst he
           have KLnu := hide (show ∀ j (hj : j < ms.length), ms[j].size ≤ 8 from fun j hj => hK.out j hj hj)
           clear hK hk hlt
           go_wp2
           go_loopw [7] (fun iv wr => ∃ k : Nat, iv = .int .i64 k ∧ k ≤ ws.length ∧ Hid (∀ j (hj : j < ws.length), j < k → ws[j].size ≤ 40) ∧ W2 = wr) (fun iv _ => ws.length - (intOf iv).toNat)
           case atStart => exact ⟨0, rfl, Nat.zero_le _, hide fun j _ h => absurd h (by omega), rfl⟩
           case round =>
            obtain ⟨k, rfl, hk, hK, rfl⟩ := hrel
            by_cases hlt : k < ws.length
            ·obtain ⟨b0, o0, hAe, ha, hcell⟩ := Rwo.out _ HB2.out (by omega)
             rw [hAe] at f16
             have c0 := hcell k hlt
             obtain ⟨sv, hm⟩ : ∃ sv, sv = ws[k] := ⟨_, rfl⟩
             rw [← hm] at c0
             have HM := hide hm
             have hk0 : (0 : Int) ≤ (k : Int) := by omega
             have hk1 : (k : Int) < (ws.length : Int) := by omega
             clear hcell hm hAe ha
             by_cases hB : 40 < sv.size
             ·have hd : decide ((40 : Int) < ((sv.size : Nat) : Int)) = true := decide_eq_true (by omega)
              go_wp2
              go_ret
              exact ⟨true, rfl, (fun h => Bool.noConfusion h), HEnd.out⟩
             ·have hd : decide ((40 : Int) < ((sv.size : Nat) : Int)) = false := decide_eq_false (by omega)
              have HNB := hide hB
              clear hB
              go_wp2
              go_roundw
              case rel =>
               refine ⟨k + 1, by go_num, hlt, hide fun j hj hjk => ?_, by first | exact trivial | rfl⟩
               rcases Nat.lt_or_ge j k with h | h
               ·exact hK.out j hj h
               ·obtain rfl : j = k := by omega
                have h1 := HM.out
                have h2 := HNB.out
                rw [h1] at h2
                exact Nat.le_of_not_lt h2
              case measure => simp [intOf]; omega
            ·obtain he : k = ws.length := by omega
             subst he
             have KLwo := hide (show ∀ j (hj : j < ws.length), ws[j].size ≤ 40 from fun j hj => hK.out j hj hj)
             clear hK hk hlt
             go_wp2
             go_loopw [8] (fun iv wr => ∃ k : Nat, iv = .int .i64 k ∧ k ≤ rs.length ∧ Hid (∀ j (hj : j < rs.length), j < k → rs[j] ≤ 40) ∧ W2 = wr) (fun iv _ => rs.length - (intOf iv).toNat)
             case atStart => exact ⟨0, rfl, Nat.zero_le _, hide fun j _ h => absurd h (by omega), rfl⟩
             case round =>
              obtain ⟨k, rfl, hk, hK, rfl⟩ := hrel
              by_cases hlt : k < rs.length
              ·obtain ⟨b0, o0, hAe, ha, hcell⟩ := Rro.out _ HB2.out (by omega)
               rw [hAe] at f17
               obtain ⟨D, c, c0⟩ := hcell k hlt
               obtain ⟨m, hm⟩ : ∃ m, m = rs[k] := ⟨_, rfl⟩
               rw [← hm] at c0
               have HM := hide hm
               have hk0 : (0 : Int) ≤ (k : Int) := by omega
               have hk1 : (k : Int) < (rs.length : Int) := by omega
               clear hcell hm hAe ha
               by_cases hB : 40 < m
               ·have hd : decide ((40 : Int) < ((m : Nat) : Int)) = true := decide_eq_true (by omega)
                go_wp2
                go_ret
                exact ⟨true, rfl, (fun h => Bool.noConfusion h), HEnd.out⟩
               ·have hd : decide ((40 : Int) < ((m : Nat) : Int)) = false := decide_eq_false (by omega)
                have HNB := hide hB
                clear hB
                go_wp2
                go_roundw
                case rel =>
                 refine ⟨k + 1, by go_num, hlt, hide fun j hj hjk => ?_, by first | exact trivial | rfl⟩
                 rcases Nat.lt_or_ge j k with h | h
                 ·exact hK.out j hj h
                 ·obtain rfl : j = k := by omega
                  have h1 := HM.out
                  have h2 := HNB.out
                  rw [h1] at h2
                  exact Nat.le_of_not_lt h2
                case measure => simp [intOf]; omega
              ·obtain he : k = rs.length := by omega
               subst he
               have KLro := hide (show ∀ j (hj : j < rs.length), rs[j] ≤ 40 from fun j hj => hK.out j hj hj)
               clear hK hk hlt
               go_wp2
               go_loopw [9] (fun iv wr => ∃ k : Nat, iv = .int .i64 k ∧ k ≤ ts.length ∧ Hid (∀ j (hj : j < ts.length), j < k → ts[j] ≤ 60) ∧ W2 = wr) (fun iv _ => ts.length - (intOf iv).toNat)
               case atStart => exact ⟨0, rfl, Nat.zero_le _, hide fun j _ h => absurd h (by omega), rfl⟩
               case round =>
                obtain ⟨k, rfl, hk, hK, rfl⟩ := hrel
                by_cases hlt : k < ts.length
                ·obtain ⟨b0, o0, hAe, ha, hcell⟩ := Rta.out _ HB2.out (by omega)
                 rw [hAe] at f18
                 obtain ⟨D, c, c0⟩ := hcell k hlt
                 obtain ⟨m, hm⟩ : ∃ m, m = ts[k] := ⟨_, rfl⟩
                 rw [← hm] at c0
                 have HM := hide hm
                 have hk0 : (0 : Int) ≤ (k : Int) := by omega
                 have hk1 : (k : Int) < (ts.length : Int) := by omega
                 clear hcell hm hAe ha
                 by_cases hB : 60 < m
                 ·have hd : decide ((60 : Int) < ((m : Nat) : Int)) = true := decide_eq_true (by omega)
                  go_wp2
                  go_ret
                  exact ⟨true, rfl, (fun h => Bool.noConfusion h), HEnd.out⟩
                 ·have hd : decide ((60 : Int) < ((m : Nat) : Int)) = false := decide_eq_false (by omega)
                  have HNB := hide hB
                  clear hB
                  go_wp2
                  go_roundw
                  case rel =>
                   refine ⟨k + 1, by go_num, hlt, hide fun j hj hjk => ?_, by first | exact trivial | rfl⟩
                   rcases Nat.lt_or_ge j k with h | h
                   ·exact hK.out j hj h
                   ·obtain rfl : j = k := by omega
                    have h1 := HM.out
                    have h2 := HNB.out
                    rw [h1] at h2
                    exact Nat.le_of_not_lt h2
                  case measure => simp [intOf]; omega
                ·obtain he : k = ts.length := by omega
                 subst he
                 have KLta := hide (show ∀ j (hj : j < ts.length), ts[j] ≤ 60 from fun j hj => hK.out j hj hj)
                 clear hK hk hlt
                 go_wp2
                 go_ret
                 exact ⟨false, rfl, fun _ => ⟨HQ1.out, HQ2.out, Kpw.out, Kix.out, Kpr.out, KLpr.out, Kcw.out, KLcw.out, Kmn.out, KLmn.out, Knu.out, KLnu.out, Kwo.out, KLwo.out, Kro.out, KLro.out, Kta.out, KLta.out⟩, HEnd.out⟩
  ·skip
   go_wp2
   go_ret
   exact ⟨true, rfl, (fun h => Bool.noConfusion h), HEnd.out⟩
 ·skip
  go_wp2
  go_ret
  exact ⟨true, rfl, (fun h => Bool.noConfusion h), HA.out.trans (HB1.out.mono HA.out.size)⟩
section
def IB (w : World) (g : Nat) (zs : List Int) : Prop := w.heap[g]? = some (.cells (zs.map (Value.int .i64)).toArray 3 (0, 0))
section
variable {w w' : World} {g : Nat} {zs : List Int}
theorem IB.lt (h : IB w g zs) : g < w.heap.size := (Array.getElem?_eq_some_iff.1 h).1
theorem IB.cell (h : IB w g zs) {k : Nat} (hk : k < zs.length) : w.cell? ⟨g, k, none⟩ = some (.int .i64 (zs.getD k 0)) := by
 rw [cell_of_row w g k _ 3 (0, 0) h]
 simp [hk]
theorem IB.free (h : IB w g zs) (j : Nat) : w.frozen? ⟨g, j, none⟩ = false := by
 unfold IB at h; simp [World.frozen?, h]
theorem IB.set (h : IB w g zs) (k : Nat) (x : Int) : IB (w.setCell ⟨g, k, none⟩ (.int .i64 x)) g (zs.set k x) := by
 unfold IB at h ⊢
 simp [World.setCell, Array.getElem?_modify, h, List.map_set]
theorem IB.below (h : IB w g zs) (hB : Below w.heap.size w w') : IB w' g zs := (hB.block g h.lt).trans h
theorem IB.row (h : IB w g zs) : RowI w (some ⟨g, 0, none⟩) zs := fun _ => ⟨g, 0, rfl, h.lt, fun k hk => by
 rw [Nat.zero_add, h.cell hk]; simp [hk]⟩
theorem IB.new_ (w : World) (zs : List Int) : IB (w.alloc (.cells (zs.map (Value.int .i64)).toArray 3)) w.heap.size zs := heap_alloc_new w _
theorem IB.zero (w : World) (n : Nat) : IB (w.alloc (.cells (Array.replicate n (.int .i64 0)) 3)) w.heap.size (List.replicate n 0) := by
 have := IB.new_ w (List.replicate n 0)
 rwa [List.map_replicate, List.toArray_replicate] at this
end
def rowI (n : Nat) (f : Nat → Int) : List Int := (List.range n).map f
theorem rowI_len (n : Nat) (f : Nat → Int) : (rowI n f).length = n := by simp [rowI]
theorem rowI_get {n k : Nat} (f : Nat → Int) (hk : k < n) : (rowI n f).getD k 0 = f k := by simp [rowI, hk]
theorem rowI_zero (n : Nat) : rowI n (fun _ => 0) = List.replicate n 0 := by
 apply List.ext_getElem <;> simp [rowI]
theorem rowI_set {n k : Nat} (f : Nat → Int) (x : Int) : (rowI n f).set k x = rowI n fun s => if s = k then x else f s := by
 apply List.ext_getElem
 ·simp [rowI]
 ·intro j h1 h2
  rw [List.getElem_set]
  simp only [rowI, List.getElem_map, List.getElem_range]
  by_cases e : k = j
  ·rw [if_pos e, if_pos e.symm]
  ·rw [if_neg e, if_neg (Ne.symm e)]
set_option maxHeartbeats 1000000 in
theorem evPlus_any (a b : Int) (w : World) (h : -4611686018427387904 ≤ a ∧ a ≤ 4611686018427387903) (h2 : -4611686018427387904 ≤ b ∧ b ≤ 4611686018427387903) :
  Calls Tryz.prog 35 #[.int .i64 a, .int .i64 b] w fun e w' => e = .returned (.int .i64 (a + b)) ∧ w' = w := by
 have hw : IntKind.i64.wrap (a + b) = a + b := IntWalk.i64_in _ (by omega)
 go_enter Tryz.func35, Tryz.ntmps35
 go_wp2
 go_ret
 exact ⟨rfl, rfl⟩
set_option maxRecDepth 100000 in
set_option maxHeartbeats 4000000 in
theorem evSumsI_any (L : Int) (n : Nat) (es : List Edg) (A : Option Addr) (c g o cv : Nat) (v : Nat → Int) (w : World) (hn : n ≤ 64) (hl : es.length ≤ 1024) (he : ∀ e ∈ es, inE n e) (hr : RowE w A es)
  (hg : g < w.heap.size) (hv : ∀ k, k < n → w.cell? ⟨g, o + k, none⟩ = some (.int .i64 (v k))) (hU : ∀ k, k < n → (v k).natAbs ≤ 1000000) :
  Calls Tryz.prog 34 #[.agg #[.int .i64 L, .int .i64 (n : Int), .slice A es.length c], .slice (some ⟨g, o, none⟩) n cv, .func (.func 35) #[] #[]] w fun e w' => e = .returned (.slice (some ⟨w.heap.size + 1, 0, none⟩) n n) ∧ IB w' (w.heap.size + 1) (rowI n (sumsF v es)) ∧ Below w.heap.size w w' := by
 have hn7 : n ≤ 70000 := by omega
 have hmk := fun W => run_make_zs n hn7 W
 obtain ⟨Z, hZ⟩ : ∃ Z, w.heap.size = Z := ⟨_, rfl⟩
 have HZ := hide hZ
 have hB1 : Below Z w ((w.alloc (.cells #[.int .i64 L, .int .i64 (n : Int), .slice A es.length c] 24)).alloc (.cells (Array.replicate n (.int .i64 0)) 3)) := by
  rw [← hZ]; exact ((Below.refl _ w).alloc (Nat.le_refl _) _).alloc (by simp) _
 have hI1 : IB ((w.alloc (.cells #[.int .i64 L, .int .i64 (n : Int), .slice A es.length c] 24)).alloc (.cells (Array.replicate n (.int .i64 0)) 3)) (Z + 1) (rowI n (sumsF v (es.take 0))) := by
  rw [show sumsF v (es.take 0) = fun _ => 0 from rfl, rowI_zero]
  have := IB.zero (w.alloc (.cells #[.int .i64 L, .int .i64 (n : Int), .slice A es.length c] 24)) n
  rw [World.size_alloc, hZ] at this
  exact this
 have HR := hide (fun W (hW : Below Z w W) => hr.below (hW.mono (Nat.le_of_eq hZ)))
 have HV := hide (fun W (hW : Below Z w W) k (hk : k < n) => (hW.cell (p := ⟨g, o + k, none⟩) (by show g < Z; omega)).trans (hv k hk))
 have hgZ : g < Z := by omega
 have HE := hide he
 have HU := hide hU
 have HP := hide (fun a b W h h2 => evPlus_any a b W h h2)
 clear hr hv he hU hZ hg
 go_enter Tryz.func34, Tryz.ntmps34
 go_wp2
 generalize (w.alloc (.cells #[.int .i64 L, .int .i64 (n : Int), .slice A es.length c] 24)).alloc (.cells (Array.replicate n (.int .i64 0)) 3) = W1 at hI1 hB1 ⊢
 rw [HZ.out]
 go_loopw [16] (fun iv wr => ∃ i : Nat, iv = .int .i64 i ∧ i ≤ es.length ∧ IB wr (Z + 1) (rowI n (sumsF v (es.take i))) ∧ Below Z w wr) (fun iv _ => es.length - (intOf iv).toNat)
 case atStart => exact ⟨0, rfl, Nat.zero_le _, hI1, hB1⟩
 case round =>
  obtain ⟨i, rfl, hi, hS, hB⟩ := hrel
  clear hB1 hI1
  by_cases hlt : i < es.length
  ·obtain ⟨b, oe, rfl, hbl, hcell⟩ := HR.out wr hB (by omega)
   obtain ⟨a0, a1, a2⟩ := hcell i hlt
   have hi0 : (0 : Int) ≤ (i : Int) := by omega
   have hi1 : (i : Int) < (es.length : Int) := by omega
   obtain ⟨e0, e1, e2, e3⟩ := HE.out es[i] (List.getElem_mem hlt)
   have HTk := hide (List.take_succ_eq_append_getElem hlt)
   have hsb := sumsVle HU.out (es.take i) (fun x hx => HE.out x (List.mem_of_mem_take hx))
   obtain ⟨e, hee⟩ : ∃ e, es[i] = e := ⟨_, rfl⟩
   rw [hee] at a0 a1 a2 e0 e1 e2 e3 HTk
   obtain ⟨f, hf⟩ : ∃ f : Nat, e.f = (f : Int) := ⟨e.f.toNat, by omega⟩
   obtain ⟨t, ht⟩ : ∃ t : Nat, e.t = (t : Int) := ⟨e.t.toNat, by omega⟩
   obtain ⟨l, hel⟩ : ∃ l, e.l = l := ⟨_, rfl⟩
   have hfn : f < n := by omega
   have htn : t < n := by omega
   have hft : e.f.toNat = f := by omega
   have htt : e.t.toNat = t := by omega
   rw [hf] at a0
   rw [hel] at a1
   rw [ht] at a2
   have hU1 := HU.out t htn
   have v0 := HV.out wr hB t htn
   have hsi := hsb f
   rw [List.length_take, Nat.min_eq_left hi] at hsi
   obtain ⟨x, hx⟩ : ∃ x, sumsF v (es.take i) f = x := ⟨_, rfl⟩
   obtain ⟨y, hy⟩ : ∃ y, v t = y := ⟨_, rfl⟩
   rw [hx] at hsi
   rw [hy] at v0 hU1
   have HAdd := hide (fun W => HP.out x y W (by omega) (by omega))
   have HNx := hide (show (rowI n (sumsF v (es.take i))).set f (x + y) = rowI n (sumsF v (es.take (i + 1))) by
    rw [HTk.out, sumsVsnoc, hft, htt, hy, rowI_set]
    congr 1
    funext s
    split
    ·rename_i h; subst h; rw [hx]
    ·rfl)
   have p0 := hS.cell (k := f) (by rw [rowI_len]; exact hfn)
   rw [rowI_get _ hfn, hx] at p0
   have hA : Below wr.heap.size wr (wr.alloc (.cells #[.int .i64 (f : Int), .int .i64 l, .int .i64 (t : Int)] 72)) := (Below.refl _ wr).alloc (Nat.le_refl _) _
   have hx_ := heap_alloc_new wr (.cells #[.int .i64 (f : Int), .int .i64 l, .int .i64 (t : Int)] 72)
   have HSl := hide hS.lt
   have HS2 := hide (hS.below hA)
   have HB2 := hide (hB.trans (hA.mono (show Z ≤ wr.heap.size by have := hS.lt; omega)))
   have q0 := (hA.cell (p := ⟨Z + 1, f, none⟩) hS.lt).trans p0
   have qf := HS2.out.free f
   have w0 := (hA.cell (p := ⟨g, o + t, none⟩) (show g < wr.heap.size by have := hS.lt; omega)).trans v0
   have i0 : (0 : Int) ≤ (f : Int) := by omega
   have i1 : (f : Int) < (n : Int) := by omega
   have j0' : (0 : Int) ≤ (t : Int) := by omega
   have j1' : (t : Int) < (n : Int) := by omega
   clear hee hf ht hel hft htt hx hy hsb hsi hU1 v0 p0 e0 e1 e2 e3 hcell hB hS hA
   have x0 := (cell_of_row _ _ 0 _ 72 (0, 0) hx_).trans rfl
   have x2 := (cell_of_row _ _ 2 _ 72 (0, 0) hx_).trans rfl
   simp only [List.getElem?_toArray, List.getElem?_cons_zero, List.getElem?_cons_succ] at x0 x2
   go_wp2_with fail
   have HXP := hide (show Z + 1 < wr.heap.size from HSl.out)
   obtain ⟨X, hXX⟩ : ∃ X, wr.heap.size = X := ⟨_, rfl⟩
   rw [hXX] at HXP
   rw [hXX] at x0 x2 ⊢
   clear hx_
   generalize wr.alloc (.cells #[.int .i64 (f : Int), .int .i64 l, .int .i64 (t : Int)] 72) = Wx at HS2 HB2 q0 qf w0 x0 x2 ⊢
   have hXl : X < Wx.heap.size := (World.block_lt_of_cell? _ _ x0)
   have hgl : g < Wx.heap.size := (World.block_lt_of_cell? _ _ w0)
   have hXP : X ≠ Z + 1 := by have := HXP.out; omega
   have hgP : g ≠ Z + 1 := by omega
   have hSb := hide (show ∀ W1 : World, (∀ b, b ≠ Z + 1 → b < Wx.heap.size → W1.heap[b]? = Wx.heap[b]?) → (fun W' : World => W'.cell? ⟨X, 0, none⟩ = some (.int .i64 (f : Int)) ∧ W'.cell? ⟨X, 2, none⟩ = some (.int .i64 (t : Int)) ∧ W'.cell? ⟨g, o + t, none⟩ = some (.int .i64 y)) W1 from fun W1 hk => ⟨(World.cell?_of_block (hk X hXP hXl)).trans x0, (World.cell?_of_block (hk X hXP hXl)).trans x2, (World.cell?_of_block (hk g hgP hgl)).trans w0⟩)
   have q0d : Wx.drew.cell? ⟨Z + 1, f, none⟩ = some (.int .i64 x) := q0
   have qfd : Wx.drew.frozen? ⟨Z + 1, f, none⟩ = false := qf
   clear w0 x0 x2 q0 qf hXl hgl hXP
   refine wp_region_noPanic ?_
   refine wp_region_held_drew (S := fun W' => W'.cell? ⟨X, 0, none⟩ = some (.int .i64 (f : Int)) ∧ W'.cell? ⟨X, 2, none⟩ = some (.int .i64 (t : Int)) ∧ W'.cell? ⟨g, o + t, none⟩ = some (.int .i64 y)) (by kernel_rfl) (hSb.out _ fun b _ hb => rfl) (fun hHeld => ?_)
   refine wpAnyH_take (i := 0) (oi := _) (v := ?v0) rfl (by kernel_rfl) (by kernel_rfl) (by kernel_rfl) (fun _ _ _ h => h) (Or.inl ⟨by rfl, ?hy0⟩) (by assumption) ?rest0
   case hy0 => (intro w hSw; (try dsimp only at hSw); go_simp; (try with_reducible rfl))
   (try simp only [List.getElem_toArray, List.getElem_cons_zero, Act.put, List.setIfInBounds_toArray, List.set_cons_zero, List.set_cons_succ])
   refine wpAnyH_take (i := 1) (oi := _) (v := ?v1) rfl (by kernel_rfl) (by kernel_rfl) (by kernel_rfl) (fun _ _ _ h => h) (Or.inl ⟨by rfl, ?hy1⟩) (by assumption) ?rest1
   case hy1 => (intro w hSw; (try dsimp only at hSw); go_simp; (try with_reducible rfl))
   (try simp only [List.getElem_toArray, List.getElem_cons_zero, List.getElem_cons_succ, Act.put, List.setIfInBounds_toArray, List.set_cons_zero, List.set_cons_succ])
   refine wpAnyH_take (i := 2) (oi := _) (v := ?v2) rfl (by kernel_rfl) (by kernel_rfl) (by kernel_rfl) (fun _ _ _ h => h) (Or.inl ⟨by rfl, ?hy2⟩) (by assumption) ?rest2
   case hy2 => (intro w hSw; (try dsimp only at hSw); go_simp; (try with_reducible rfl))
   (try simp only [List.getElem_toArray, List.getElem_cons_zero, List.getElem_cons_succ, Act.put, List.setIfInBounds_toArray, List.set_cons_zero, List.set_cons_succ])
   refine wpAnyH_take (i := 3) (oi := _) (v := ?v3) rfl (by kernel_rfl) (by kernel_rfl) (by kernel_rfl) (fun _ _ _ h => h) (Or.inl ⟨by rfl, ?hy3⟩) (by assumption) ?rest3
   case hy3 => (intro w hSw; (try dsimp only at hSw); go_simp; (try with_reducible rfl))
   (try simp only [List.getElem_toArray, List.getElem_cons_zero, List.getElem_cons_succ, Act.put, List.setIfInBounds_toArray, List.set_cons_zero, List.set_cons_succ])
   refine wpAnyH_take (i := 4) (oi := _) (v := ?v4) rfl (by kernel_rfl) (by kernel_rfl) (by kernel_rfl) (fun _ _ _ h => h) (Or.inl ⟨by rfl, ?hy4⟩) (by assumption) ?rest4
   case hy4 => (intro w hSw; (try dsimp only at hSw); go_simp; (try with_reducible rfl))
   (try simp only [List.getElem_toArray, List.getElem_cons_zero, List.getElem_cons_succ, Act.put, List.setIfInBounds_toArray, List.set_cons_zero, List.set_cons_succ])
   refine wpAnyH_take (i := 5) (oi := _) (v := ?v5) rfl (by kernel_rfl) (by kernel_rfl) (by kernel_rfl) (fun _ _ _ h => h) (Or.inl ⟨by rfl, ?hy5⟩) (by assumption) ?rest5
   case hy5 => (intro w hSw; (try dsimp only at hSw); go_simp; (try with_reducible rfl))
   (try simp only [List.getElem_toArray, List.getElem_cons_zero, List.getElem_cons_succ, Act.put, List.setIfInBounds_toArray, List.set_cons_zero, List.set_cons_succ])
   refine wpAnyH_take (i := 6) (oi := _) (v := ?v6) rfl (by kernel_rfl) (by kernel_rfl) (by kernel_rfl) (fun _ _ _ h => h) (Or.inl ⟨by rfl, ?hy6⟩) (by assumption) ?rest6
   case hy6 => (intro w hSw; (try dsimp only at hSw); go_simp; (try with_reducible rfl))
   (try simp only [List.getElem_toArray, List.getElem_cons_zero, List.getElem_cons_succ, Act.put, List.setIfInBounds_toArray, List.set_cons_zero, List.set_cons_succ])
   refine wpAnyH_take (i := 7) (oi := _) (v := ?v7) rfl (by kernel_rfl) (by kernel_rfl) (by kernel_rfl) (fun _ _ _ h => h) (Or.inl ⟨by rfl, ?hy7⟩) (by assumption) ?rest7
   case hy7 => (intro w hSw; (try dsimp only at hSw); go_simp; (try with_reducible rfl))
   (try simp only [List.getElem_toArray, List.getElem_cons_zero, List.getElem_cons_succ, Act.put, List.setIfInBounds_toArray, List.set_cons_zero, List.set_cons_succ])
   refine wpAnyH_take (i := 9) (oi := _) (v := ?v9) rfl (by kernel_rfl) (by kernel_rfl) (by kernel_rfl) (fun _ _ _ h => h) (Or.inl ⟨by rfl, ?hy9⟩) (by assumption) ?rest9
   case hy9 => (intro w hSw; (try dsimp only at hSw); go_simp; (try with_reducible rfl))
   (try simp only [List.getElem_toArray, List.getElem_cons_zero, List.getElem_cons_succ, Act.put, List.setIfInBounds_toArray, List.set_cons_zero, List.set_cons_succ])
   refine wpAnyH_take (i := 10) (oi := _) (v := ?v10) rfl (by kernel_rfl) (by kernel_rfl) (by kernel_rfl) (fun _ _ _ h => h) (Or.inl ⟨by rfl, ?hy10⟩) (by assumption) ?rest10
   case hy10 => (intro w hSw; (try dsimp only at hSw); go_simp; (try with_reducible rfl))
   (try simp only [List.getElem_toArray, List.getElem_cons_zero, List.getElem_cons_succ, Act.put, List.setIfInBounds_toArray, List.set_cons_zero, List.set_cons_succ])
   refine wpAnyH_take (i := 11) (oi := _) (v := ?v11) rfl (by kernel_rfl) (by kernel_rfl) (by kernel_rfl) (fun _ _ _ h => h) (Or.inl ⟨by rfl, ?hy11⟩) (by assumption) ?rest11
   case hy11 => (intro w hSw; (try dsimp only at hSw); go_simp; (try with_reducible rfl))
   (try simp only [List.getElem_toArray, List.getElem_cons_zero, List.getElem_cons_succ, Act.put, List.setIfInBounds_toArray, List.set_cons_zero, List.set_cons_succ])
   refine wpAnyH_take (i := 12) (oi := _) (v := ?v12) rfl (by kernel_rfl) (by kernel_rfl) (by kernel_rfl) (fun _ _ _ h => h) (Or.inl ⟨by rfl, ?hy12⟩) (by assumption) ?rest12
   case hy12 => (intro w hSw; (try dsimp only at hSw); go_simp; (try with_reducible rfl))
   (try simp only [List.getElem_toArray, List.getElem_cons_zero, List.getElem_cons_succ, Act.put, List.setIfInBounds_toArray, List.set_cons_zero, List.set_cons_succ])
   refine wpAnyH_take (i := 13) (oi := _) (v := ?v13) rfl (by kernel_rfl) (by kernel_rfl) (by kernel_rfl) (fun _ _ _ h => h) (Or.inl ⟨by rfl, ?hy13⟩) (by assumption) ?rest13
   case hy13 => (intro w hSw; (try dsimp only at hSw); go_simp; (try with_reducible rfl))
   (try simp only [List.getElem_toArray, List.getElem_cons_zero, List.getElem_cons_succ, Act.put, List.setIfInBounds_toArray, List.set_cons_zero, List.set_cons_succ])
   refine wpAnyH_ready (rs := [8]) (by kernel_rfl) (by simp) ?_
   refine AllReadyH.cons (o := _) rfl (fun K hK => ?_) AllReadyH.nil
   go_simp
   refine hK.out _ _ ?_ (fun hHeld => ?_)
   ·exact hHeld
   clear hK K
   (try simp only [List.getElem_toArray, List.getElem_cons_zero, List.getElem_cons_succ, Act.put, List.setIfInBounds_toArray, List.set_cons_zero, List.set_cons_succ])
   refine wpAnyH_ready (rs := [14]) (by kernel_rfl) (by simp) ?_
   refine AllReadyH.cons (o := _) rfl (fun K hK => ?_) AllReadyH.nil
   go_simp
   (with_reducible refine (HAdd.out _).mono ?_)
   rintro en w2 ⟨rfl, rfl⟩
   refine hK.out _ _ ?_ (fun hHeld => ?_)
   ·exact hHeld
   clear hK K
   (try simp only [List.getElem_toArray, List.getElem_cons_zero, List.getElem_cons_succ, Act.put, List.setIfInBounds_toArray, List.set_cons_zero, List.set_cons_succ])
   refine wpAnyH_take (i := 15) (oi := _) (v := ?v15) rfl (by kernel_rfl) (by kernel_rfl) (by kernel_rfl) (fun _ _ _ h => h) (Or.inl ⟨by rfl, ?hy15⟩) (by assumption) ?rest15
   case hy15 => (intro w hSw; (try dsimp only at hSw); go_simp; (try with_reducible rfl))
   (try simp only [List.getElem_toArray, List.getElem_cons_zero, List.getElem_cons_succ, Act.put, List.setIfInBounds_toArray, List.set_cons_zero, List.set_cons_succ])
   refine wpAnyH_ready (rs := [16]) (by kernel_rfl) (by simp) ?_
   refine AllReadyH.cons (o := _) rfl (fun K hK => ?_) AllReadyH.nil
   go_simp
   refine hK.out _ _ ?_ (fun hHeld => ?_)
   ·exact hSb.out _ fun b hne hb => Below.heap_setCell _ ⟨Z + 1, f, none⟩ _ b hne
   clear hK K
   (try simp only [List.getElem_toArray, List.getElem_cons_zero, List.getElem_cons_succ, Act.put, List.setIfInBounds_toArray, List.set_cons_zero, List.set_cons_succ])
   refine wpAnyH_done (by kernel_rfl) ?_ _
   refine NoPanic.normal ?_
   have HS9 := hide (show IB (Wx.drew.setCell ⟨Z + 1, f, none⟩ (.int .i64 (x + y))) (Z + 1) (rowI n (sumsF v (es.take (i + 1)))) from HNx.out ▸ IB.set (w := Wx.drew) HS2.out f (x + y))
   have HB9 := hide (show Below Z w (Wx.drew.setCell ⟨Z + 1, f, none⟩ (.int .i64 (x + y))) from HB2.out.drew.setCell (p := ⟨Z + 1, f, none⟩) (by show Z ≤ Z + 1; omega) _)
   clear q0d qfd hSb
   go_wp2
   go_roundw
   case rel => exact ⟨i + 1, by go_num, hlt, HS9.out, HB9.out⟩
   case measure => simp [intOf]; omega
  ·obtain rfl : i = es.length := by omega
   rw [List.take_length] at hS
   go_wp2
   go_ret
   exact ⟨by rw [HZ.out]; rfl, by rw [HZ.out]; exact hS, by rw [HZ.out]; exact hB⟩
end
end Go.Proofs.YtbnpjoiojhnimaaGreatDoor
namespace Go.Proofs.YtbnpjoiojhnimaaGreatDoor
open Go.RowKit
set_option maxHeartbeats 1000000 in
theorem ifI_nil (FN : Nat) (A : Option Addr) (c : Nat) (w : World) :
  Calls Tryz.prog 129 #[.slice A 0 c, .func (.func FN) #[] #[]] w fun e w' => e = .returned (.int .i64 (-1)) ∧ w' = w := by
 go_enter Tryz.func129, Tryz.ntmps129
 go_wp2
 refine wp_loop_rounds 1 ?_
 rw [rounds_succ]
 go_wp2
 go_ret
 exact ⟨rfl, rfl⟩
set_option maxHeartbeats 1000000 in
theorem cfI_nil (FN : Nat) (A : Option Addr) (c : Nat) (w : World) :
  Calls Tryz.prog 84 #[.slice A 0 c, .func (.func FN) #[] #[]] w fun e w' => e = .returned (.bool false) ∧ w' = w := by
 have H := hide (fun W => ifI_nil FN A c W)
 go_enter Tryz.func84, Tryz.ntmps84
 go_wp2_with (go_at_call 129; refine (H.out _).mono ?_; rintro e w' ⟨rfl, rfl⟩)
 go_ret
 exact ⟨rfl, rfl⟩
set_option maxRecDepth 100000 in
set_option maxHeartbeats 2000000 in
theorem evCheck_nil (L S m : Int) (es : List Edg) (A : Option Addr) (c : Nat) (D : Option Addr) (cv : Nat) (w : World) (hr : RowE w A es) :
  Calls Tryz.prog 33 #[.agg #[.int .i64 L, .int .i64 S, .slice A es.length c], .slice D 0 cv, .int .i64 m] w fun e w' => ∃ r : Int, e = .returned (.int .i64 r) ∧ (r == 0) = (okG L S es && okW S m []) ∧ Below w.heap.size w w' := by
 have hB0 : Below w.heap.size w (w.alloc (.cells #[.int .i64 L, .int .i64 S, .slice A es.length c] 24)) := (Below.refl _ w).alloc (Nat.le_refl _) _
 have hb0 : (w.alloc (.cells #[.int .i64 L, .int .i64 S, .slice A es.length c] 24)).heap[w.heap.size]? = some (.cells #[.int .i64 L, .int .i64 S, .slice A es.length c] 24 (0, 0)) := heap_alloc_new w _
 have HG := hide (grCheck_any L S es A c (w.alloc (.cells #[.int .i64 L, .int .i64 S, .slice A es.length c] 24)) (hr.below hB0))
 have HC := hide (fun W => cfI_nil 86 D cv W)
 have HBx := hide (fun W (hW : Below (w.alloc (.cells #[.int .i64 L, .int .i64 S, .slice A es.length c] 24)).heap.size (w.alloc (.cells #[.int .i64 L, .int .i64 S, .slice A es.length c] 24)) W) => show Below w.heap.size w W from hB0.trans (hW.mono hB0.size))
 have hlt : w.heap.size < (w.alloc (.cells #[.int .i64 L, .int .i64 S, .slice A es.length c] 24)).heap.size := by simp
 clear hr hB0
 go_enter Tryz.func33, Tryz.ntmps33
 go_wp2_with fail
 generalize w.alloc (.cells #[.int .i64 L, .int .i64 S, .slice A es.length c] 24) = W0 at hb0 HG HBx hlt ⊢
 have g1 : W0.cell? ⟨w.heap.size, 1, none⟩ = some (.int .i64 S) := by rw [cell_of_row _ _ 1 _ 24 (0, 0) hb0]; rfl
 clear hb0
 (with_reducible refine HG.out.mono ?_)
 rintro e w1 ⟨r, rfl, hr0, hB1⟩
 have HB1 := hide (HBx.out _ hB1)
 have s1 := (hB1.cell (p := ⟨w.heap.size, 1, none⟩) hlt).trans g1
 clear g1 hB1 hlt
 cases hG : okG L S es with
 | false =>
  rw [hG] at hr0
  have hrn : (r != 0) = true := by rw [bne_iff_ne]; intro h; rw [h] at hr0; exact absurd hr0 (by decide)
  have HGv := hide hG
  clear hr0 hG
  go_wp2
  go_ret
  exact ⟨1, rfl, by rw [HGv.out]; rfl, HB1.out⟩
 | true =>
  rw [hG] at hr0
  have hrn : (r != 0) = false := by rw [bne_eq_false_iff_eq]; exact beq_iff_eq.1 hr0
  have HGv := hide hG
  clear hr0 hG
  by_cases hm : 1 ≤ m ∧ m ≤ 256
  ·obtain ⟨hm1, hm2⟩ := hm
   by_cases hS : S = 0
   ·subst hS
    have HV := hide (show okW 0 m [] = true by
     unfold okW
     rw [decide_eq_true hm1, decide_eq_true hm2]
     rfl)
    go_wp2_with (go_at_call 84; refine (HC.out _).mono ?_; rintro e w' ⟨rfl, rfl⟩)
    go_ret
    exact ⟨0, rfl, by rw [HGv.out, HV.out]; rfl, HB1.out⟩
   ·have hne : ((0 : Int) != S) = true := by rw [bne_iff_ne]; omega
    have HV := hide (show okW S m [] = false by unfold okW; rw [show decide ((([] : List Int).length : Int) = S) = false from decide_eq_false (by simp; omega)]; simp)
    clear hS
    go_wp2
    go_ret
    exact ⟨11, rfl, by rw [HGv.out, HV.out]; rfl, HB1.out⟩
  ·have HV := hide (show okW S m [] = false by
    unfold okW
    by_cases h1 : 1 ≤ m
    ·rw [decide_eq_false (show ¬ m ≤ 256 from fun h => hm ⟨h1, h⟩)]; simp
    ·rw [decide_eq_false h1]; simp)
   by_cases h1 : 1 ≤ m
   ·have hd : decide ((256 : Int) < m) = true := decide_eq_true (by omega)
    clear hm
    go_wp2
    go_ret
    exact ⟨2, rfl, by rw [HGv.out, HV.out]; rfl, HB1.out⟩
   ·have hd : decide (m < 1) = true := decide_eq_true (by omega)
    clear hm
    go_wp2
    go_ret
    exact ⟨2, rfl, by rw [HGv.out, HV.out]; rfl, HB1.out⟩
theorem evCheck_row (L S m : Int) (es : List Edg) (A : Option Addr) (c : Nat) (D : Option Addr) (cv : Nat) (vs : List Int) (w : World) (hr : RowE w A es) (hl : vs.length ≤ 4294967296) (hv : RowI w D vs) :
  Calls Tryz.prog 33 #[.agg #[.int .i64 L, .int .i64 S, .slice A es.length c], .slice D vs.length cv, .int .i64 m] w fun e w' => ∃ r : Int, e = .returned (.int .i64 r) ∧ (r == 0) = (okG L S es && okW S m vs) ∧ Below w.heap.size w w' := by
 by_cases h0 : 0 < vs.length
 ·obtain ⟨b, o, rfl, hb, hc⟩ := hv h0
  exact evCheck_any L S m es A c b o cv vs w hr hl hb (fun i hi => by rw [hc i hi]; simp [hi])
 ·have : vs = [] := List.eq_nil_of_length_eq_zero (by omega)
  subst this
  exact evCheck_nil L S m es A c D cv w hr
def zerV (vs : List Int) : Bool := vs.all (· == 0)
set_option maxHeartbeats 1000000 in
theorem evZerof_any (n : Int) (w : World) : Calls Tryz.prog 85 #[.int .i64 n] w fun e w' => e = .returned (.bool (n != 0)) ∧ w' = w := by
 go_enter Tryz.func85, Tryz.ntmps85
 go_wp2
 go_ret
 exact ⟨rfl, rfl⟩
theorem zer_any (vs : List Int) : (!((List.range vs.length).any fun i => vs.getD i 0 != 0)) = zerV vs := by
 unfold zerV
 rw [Bool.eq_iff_iff]
 simp only [Bool.not_eq_true', List.any_eq_false, List.mem_range, List.all_eq_true, beq_iff_eq, bne_iff_ne, ne_eq, Decidable.not_not]
 constructor
 ·intro h x hx
  obtain ⟨k, hk, rfl⟩ := List.getElem_of_mem hx
  have := h k hk
  simpa [hk] using this
 ·intro h k hk
  rw [List.getD_eq_getElem?_getD, List.getElem?_eq_getElem hk]
  exact h _ (List.getElem_mem hk)
set_option maxHeartbeats 1000000 in
theorem evZero_any (vs : List Int) (D : Option Addr) (cv : Nat) (w : World) (hl : vs.length ≤ 4294967296) (hv : RowI w D vs) :
  Calls Tryz.prog 32 #[.slice D vs.length cv] w fun e w' => e = .returned (.bool (zerV vs)) ∧ Below w.heap.size w w' := by
 have HC : Hid (Calls Tryz.prog 84 #[.slice D vs.length cv, .func (.func 85) #[] #[]] w fun e w' => e = .returned (.bool ((List.range vs.length).any fun i => vs.getD i 0 != 0)) ∧ Below w.heap.size w w') := by
  by_cases h0 : 0 < vs.length
  ·obtain ⟨b, o, rfl, hb, hc⟩ := hv h0
   exact hide (cfZ_any 85 (fun i => .int .i64 (vs.getD i 0)) (fun i => vs.getD i 0 != 0) vs.length cv b o w hl hb (fun i hi => by rw [hc i hi]; simp [hi]) (enters_of Tryz.func85 (by kernel_rfl) rfl)
    (hide fun i W' hi hW' => (evZerof_any (vs.getD i 0) W').mono (by rintro e w' ⟨rfl, rfl⟩; exact ⟨rfl, Below.refl _ _⟩)))
  ·have : vs = [] := List.eq_nil_of_length_eq_zero (by omega)
   subst this
   exact hide ((cfI_nil 85 D cv w).mono (by rintro e w' ⟨rfl, rfl⟩; exact ⟨rfl, Below.refl _ _⟩))
 have HV := hide (zer_any vs)
 obtain ⟨z, hz⟩ : ∃ z, ((List.range vs.length).any fun i => vs.getD i 0 != 0) = z := ⟨_, rfl⟩
 rw [hz] at HC HV
 clear hz hv
 go_enter Tryz.func32, Tryz.ntmps32
 go_wp2_with fail
 refine HC.out.mono ?_
 rintro e w' ⟨rfl, hB⟩
 go_wp2
 go_ret
 exact ⟨by rw [← HV.out]; rfl, hB⟩
end Go.Proofs.YtbnpjoiojhnimaaGreatDoor
namespace Go.Proofs.YtbnpjoiojhnimaaGreatDoor
open Go.RowKit Go.Shelf
def zB (b : Bool) (s : ByteArray) : Int := if b then -(bvB s : Int) else (bvB s : Int)
theorem zB_can {b : Bool} {s : ByteArray} (h : canB b s = true) : b = ng (zB b s) ∧ s = mgI (zB b s) := by
 obtain ⟨z, rfl, rfl⟩ := canB_iff h
 have e : bvB (mgI z) = z.natAbs := (bv_be z.natAbs).symm
 have e2 : zB (ng z) (mgI z) = z := by
  unfold zB
  rw [e]
  unfold ng
  by_cases hz : z < 0
  ·rw [if_pos (decide_eq_true hz)]; omega
  ·rw [if_neg (by simpa using hz)]; omega
 rw [e2]
 exact ⟨rfl, rfl⟩
theorem zB_gm (z : Int) : zB (ng z) (mgI z) = z := by
 have e : bvB (mgI z) = z.natAbs := (bv_be z.natAbs).symm
 unfold zB
 rw [e]
 unfold ng
 by_cases hz : z < 0
 ·rw [if_pos (decide_eq_true hz)]; omega
 ·rw [if_neg (by simpa using hz)]; omega
theorem zB_le {b : Bool} {s : ByteArray} (h : s.size ≤ 6000) : (zB b s).natAbs ≤ 4294967296 ^ 1500 := by
 have h1 : bvB s < 4294967296 ^ 1500 := Nat.lt_of_lt_of_le (bv_lt (s := s) rfl) (pow_limbs s.size 1500 (Nat.le_trans h (by decide)))
 unfold zB
 split
 ·rw [Int.natAbs_neg, Int.natAbs_natCast]; exact Nat.le_of_lt h1
 ·rw [Int.natAbs_natCast]; exact Nat.le_of_lt h1
theorem pow_step (k : Nat) : 1025 * 4294967296 ^ k < 4294967296 ^ (k + 1) := by
 rw [Nat.pow_succ, Nat.mul_comm]
 exact Nat.mul_lt_mul_of_pos_left (by omega) (Nat.pow_pos (by omega))
theorem sml_1501 : Sml (1025 * 4294967296 ^ 1500) := ⟨1500 + 1, by omega, pow_step 1500⟩
theorem okG_edge {L S : Int} {es : List Edg} (h : okG L S es = true) (e : Edg) (he : e ∈ es) : okE L S e = true := by
 unfold okG at h
 rw [Bool.and_eq_true] at h
 obtain ⟨k, hk, rfl⟩ := List.getElem_of_mem he
 have h1 := List.all_eq_true.1 h.2 k (List.mem_range.2 hk)
 unfold okAt at h1
 rw [List.getElem?_eq_getElem hk] at h1
 simp only [Bool.and_eq_true] at h1
 exact h1.1
set_option maxRecDepth 100000 in
set_option maxHeartbeats 1000000 in
theorem evCheckRefutef_any (b : Bool) (s : ByteArray) (hs : s.size ≤ 8000) (w : World) :
  Calls Tryz.prog 28 #[.agg #[.bool b, .string s]] w fun e w' => e = .returned (.bool (!canB b s)) ∧ Below w.heap.size w w' := by
 have HC := hide (fun W => iCheck_any b s hs W)
 have hk0 : ResI (w.alloc (Obj.cells #[Value.bool b, Value.string s] 55)) w.heap.size b s := ResI.new_ w _ _
 have hB0 : Below w.heap.size w (w.alloc (Obj.cells #[Value.bool b, Value.string s] 55)) := (Below.refl _ w).alloc (Nat.le_refl _) _
 have k0 := hk0.c0
 have k1 := hk0.c1
 cases hc : canB b s with
 | true =>
  rw [hc] at HC
  clear hc hk0 hs
  go_enter Tryz.func28, Tryz.ntmps28
  go_wp2_with fail
  (with_reducible refine (HC.out _).mono ?_)
  rintro e w1 ⟨rfl, hB1⟩
  have HB := hide (hB0.trans (hB1.mono hB0.size))
  clear hB1
  go_wp2
  go_ret
  exact ⟨rfl, HB.out⟩
 | false =>
  rw [hc] at HC
  clear hc hk0 hs
  go_enter Tryz.func28, Tryz.ntmps28
  go_wp2_with fail
  (with_reducible refine (HC.out _).mono ?_)
  rintro e w1 ⟨rfl, hB1⟩
  have HB := hide (hB0.trans (hB1.mono hB0.size))
  clear hB1
  go_wp2
  go_ret
  exact ⟨rfl, HB.out⟩
def okR (L n m : Int) (es : List Edg) (k : Nat) (nb : Nat → Bool) (mb : Nat → ByteArray) : Bool :=
 okG L n es && !(List.range k).any (fun i => !canB (nb i) (mb i)) && okM m && decide ((k : Int) = n) && decide (n ≠ 0) && refB k es m (fun i => zB (nb i) (mb i))
def AIs (w : World) (P : Option Addr) (k : Nat) (nb : Nat → Bool) (mb : Nat → ByteArray) : Prop := 0 < k → ∃ g o, P = some ⟨g, o, none⟩ ∧ g < w.heap.size ∧ ∀ i, i < k → w.cell? ⟨g, o + i * 2, none⟩ = some (.bool (nb i)) ∧ w.cell? ⟨g, o + i * 2 + 1, none⟩ = some (.string (mb i))
theorem AIs.below {w w' : World} {P : Option Addr} {k : Nat} {nb : Nat → Bool} {mb : Nat → ByteArray} (h : AIs w P k nb mb) (hB : Below w.heap.size w w') : AIs w' P k nb mb := by
 intro h0
 obtain ⟨g, o, rfl, hg, hc⟩ := h h0
 exact ⟨g, o, rfl, Nat.lt_of_lt_of_le hg hB.size, fun i hi => ⟨(hB.cell (p := ⟨g, o + i * 2, none⟩) hg).trans (hc i hi).1, (hB.cell (p := ⟨g, o + i * 2 + 1, none⟩) hg).trans (hc i hi).2⟩⟩
set_option maxHeartbeats 1000000 in
theorem ifA_nil (FN : Nat) (A : Option Addr) (c : Nat) (w : World) :
  Calls Tryz.prog 81 #[.slice A 0 c, .func (.func FN) #[] #[]] w fun e w' => e = .returned (.int .i64 (-1)) ∧ w' = w := by
 go_enter Tryz.func81, Tryz.ntmps81
 go_wp2
 refine wp_loop_rounds 1 ?_
 rw [rounds_succ]
 go_wp2
 go_ret
 exact ⟨rfl, rfl⟩
set_option maxHeartbeats 1000000 in
theorem cfA_nil (FN : Nat) (A : Option Addr) (c : Nat) (w : World) :
  Calls Tryz.prog 27 #[.slice A 0 c, .func (.func FN) #[] #[]] w fun e w' => e = .returned (.bool false) ∧ w' = w := by
 have H := hide (fun W => ifA_nil FN A c W)
 go_enter Tryz.func27, Tryz.ntmps27
 go_wp2_with (go_at_call 81; refine (H.out _).mono ?_; rintro e w' ⟨rfl, rfl⟩)
 go_ret
 exact ⟨rfl, rfl⟩
set_option maxRecDepth 100000 in
set_option maxHeartbeats 4000000 in
theorem evCheckRefute_any (L n m : Int) (es : List Edg) (A : Option Addr) (c k : Nat) (P : Option Addr) (cv : Nat) (nb : Nat → Bool) (mb : Nat → ByteArray) (w : World) (hr : RowE w A es) (hk : k ≤ 4294967296) (hP : AIs w P k nb mb) (hs : ∀ i, i < k → (mb i).size ≤ 6000) :
  Calls Tryz.prog 9 #[.agg #[.int .i64 L, .int .i64 n, .slice A es.length c], .int .i64 m, .slice P k cv] w fun e w' => ∃ r : Int, e = .returned (.int .i64 r) ∧ (r == 0) = okR L n m es k nb mb ∧ Below w.heap.size w w' := by
 have hB0 : Below w.heap.size w (w.alloc (.cells #[.int .i64 L, .int .i64 n, .slice A es.length c] 24)) := (Below.refl _ w).alloc (Nat.le_refl _) _
 have hb0 : (w.alloc (.cells #[.int .i64 L, .int .i64 n, .slice A es.length c] 24)).heap[w.heap.size]? = some (.cells #[.int .i64 L, .int .i64 n, .slice A es.length c] 24 (0, 0)) := heap_alloc_new w _
 have HG := hide (grCheck_any L n es A c (w.alloc (.cells #[.int .i64 L, .int .i64 n, .slice A es.length c] 24)) (hr.below hB0))
 have HC := hide (fun W (hW : Below w.heap.size w W) => show Calls Tryz.prog 27 #[.slice P k cv, .func (.func 28) #[] #[]] W (fun e w' => e = .returned (.bool ((List.range k).any (fun i => !canB (nb i) (mb i)))) ∧ Below W.heap.size W w') from by
  by_cases h0 : 0 < k
  ·obtain ⟨g, o, rfl, hg, hc⟩ := hP.below hW h0
   exact cfI_any 28 nb mb (fun i => !canB (nb i) (mb i)) k cv g o W hk hg hc (enters_of Tryz.func28 (by kernel_rfl) rfl)
    (hide fun i W' hi hW' => evCheckRefutef_any (nb i) (mb i) (by have := hs i hi; omega) W')
  ·obtain rfl : k = 0 := by omega
   exact (cfA_nil 28 P cv W).mono (by rintro e w' ⟨rfl, rfl⟩; exact ⟨rfl, Below.refl _ _⟩))
 have HR := hide (fun (hG : okG L n es = true) (hM : okM m = true) (hkn : (k : Int) = n) (hn0 : n ≠ 0) (hAll : (List.range k).any (fun i => !canB (nb i) (mb i)) = false) W (hW : Below w.heap.size w W) => show Calls Tryz.prog 25 #[.agg #[.int .i64 L, .int .i64 n, .slice A es.length c], .int .i64 m, .slice P k cv] W (fun e w' => e = .returned (.bool (refB k es m (fun i => zB (nb i) (mb i)))) ∧ Below W.heap.size W w') from by
  have hcan : ∀ i, i < k → canB (nb i) (mb i) = true := fun i hi => by
   have := List.any_eq_false.1 hAll i (List.mem_range.2 hi)
   simpa using this
  obtain ⟨g, o, rfl, hg, hc⟩ := hP.below hW (by omega)
  obtain ⟨_, h64, hl⟩ := okG_size hG
  have hm : 1 ≤ m ∧ m ≤ 256 := by
   unfold okM at hM
   simp only [Bool.and_eq_true, decide_eq_true_eq] at hM
   exact hM
  obtain ⟨mm, rfl⟩ : ∃ mm : Nat, m = (mm : Int) := ⟨m.toNat, by omega⟩
  rw [← hkn]
  exact evRefusal_any L k mm es A c g o cv (fun i => zB (nb i) (mb i)) (4294967296 ^ 1500) W (by omega) (by omega) hl (fun e he => by
   have h := okG_edge hG e he
   unfold okE at h
   simp only [Bool.and_eq_true, decide_eq_true_eq] at h
   unfold inE
   omega) (hr.below hW) ⟨hg, fun i hi => by
    have h := zB_can (hcan i hi)
    refine ⟨?_, ?_⟩
    ·exact (hc i hi).1.trans (by rw [← h.1])
    ·exact (hc i hi).2.trans (by rw [← h.2])⟩ (fun i hi => zB_le (hs i hi)) sml_1501)
 obtain ⟨Z, hZ⟩ : ∃ Z, w.heap.size = Z := ⟨_, rfl⟩
 rw [hZ] at hb0
 have hZl : Z < (w.alloc (.cells #[.int .i64 L, .int .i64 n, .slice A es.length c] 24)).heap.size := by rw [← hZ]; simp
 have HZ := hide hZ
 obtain ⟨al, hal⟩ : ∃ al, (List.range k).any (fun i => !canB (nb i) (mb i)) = al := ⟨_, rfl⟩
 rw [hal] at HC HR
 have HO := hide (show okR L n m es k nb mb = (okG L n es && !al && okM m && decide ((k : Int) = n) && decide (n ≠ 0) && refB k es m (fun i => zB (nb i) (mb i))) by unfold okR; rw [hal])
 obtain ⟨og, hog⟩ : ∃ og, okG L n es = og := ⟨_, rfl⟩
 rw [hog] at HG HR HO
 obtain ⟨rb, hrb⟩ : ∃ rb, refB k es m (fun i => zB (nb i) (mb i)) = rb := ⟨_, rfl⟩
 rw [hrb] at HR HO
 have hom : okM m = (decide (1 ≤ m) && decide (m ≤ 256)) := rfl
 have hMt := hide (fun (h1 : 1 ≤ m) (h2 : m ≤ 256) => show okM m = true by rw [hom, decide_eq_true h1, decide_eq_true h2]; rfl)
 have HOM := hide hom
 clear hr hP hs hk hal hog hrb hZ hom
 go_enter Tryz.func9, Tryz.ntmps9
 go_wp2_with fail
 try rw [HZ.out]
 generalize w.alloc (.cells #[.int .i64 L, .int .i64 n, .slice A es.length c] 24) = W0 at hb0 hZl HG hB0 ⊢
 have g0 : W0.cell? ⟨Z, 0, none⟩ = some (.int .i64 L) := by rw [cell_of_row _ _ 0 _ 24 (0, 0) hb0]; rfl
 have g1 : W0.cell? ⟨Z, 1, none⟩ = some (.int .i64 n) := by rw [cell_of_row _ _ 1 _ 24 (0, 0) hb0]; rfl
 have g2 : W0.cell? ⟨Z, 2, none⟩ = some (.slice A es.length c) := by rw [cell_of_row _ _ 2 _ 24 (0, 0) hb0]; rfl
 clear hb0
 (with_reducible refine HG.out.mono ?_)
 rintro e w1 ⟨r, rfl, hr0, hB1⟩
 have hBw1 := hB0.trans (hB1.mono hB0.size)
 have s0 := (hB1.cell (p := ⟨Z, 0, none⟩) hZl).trans g0
 have s1 := (hB1.cell (p := ⟨Z, 1, none⟩) hZl).trans g1
 have s2 := (hB1.cell (p := ⟨Z, 2, none⟩) hZl).trans g2
 have hZl1 := Nat.lt_of_lt_of_le hZl hB1.size
 clear g0 g1 g2 hB1 hZl HG hB0
 cases og with
 | false =>
  have hrn : (r != 0) = true := by rw [bne_iff_ne]; exact fun h => by rw [h] at hr0; simp at hr0
  have HB := hide hBw1
  clear hr0 hBw1 HR
  go_wp2
  go_ret
  exact ⟨1, rfl, by rw [HO.out]; rfl, HB.out⟩
 | true =>
  have hrn : (r != 0) = false := by rw [bne_eq_false_iff_eq]; exact beq_iff_eq.1 hr0
  have HC1 := hide (HC.out w1 hBw1)
  have HB1 := hide hBw1
  clear hr0 hBw1 HC
  have HG2 := hide (show ∀ W, Below w1.heap.size w1 W → W.cell? ⟨Z, 0, none⟩ = some (.int .i64 L) ∧ W.cell? ⟨Z, 1, none⟩ = some (.int .i64 n) ∧ W.cell? ⟨Z, 2, none⟩ = some (.slice A es.length c) from fun W hW =>
   ⟨(hW.cell (p := ⟨Z, 0, none⟩) hZl1).trans s0, (hW.cell (p := ⟨Z, 1, none⟩) hZl1).trans s1, (hW.cell (p := ⟨Z, 2, none⟩) hZl1).trans s2⟩)
  clear s0 s1 s2
  cases al with
  | true =>
   go_wp2_with fail
   (with_reducible refine HC1.out.mono ?_)
   rintro e w2 ⟨rfl, hB2⟩
   have HB := hide (HB1.out.trans (hB2.mono HB1.out.size))
   clear hB2
   go_wp2
   go_ret
   exact ⟨1, rfl, by rw [HO.out]; rfl, HB.out⟩
  | false =>
   go_wp2_with fail
   (with_reducible refine HC1.out.mono ?_)
   rintro e w2 ⟨rfl, hB2⟩
   obtain ⟨s0, s1, s2⟩ := HG2.out w2 hB2
   have HB := hide (HB1.out.trans (hB2.mono HB1.out.size))
   clear hB2 HC1
   by_cases h1 : 1 ≤ m
   ·have d1 : decide (m < 1) = false := decide_eq_false (by omega)
    by_cases h2 : m ≤ 256
    ·have d2 : decide (256 < m) = false := decide_eq_false (by omega)
     have HM := hide (hMt.out h1 h2)
     by_cases h3 : (k : Int) = n
     ·have d3 : ((k : Int) != n) = false := by rw [bne_eq_false_iff_eq]; exact h3
      by_cases h4 : n = 0
      ·have d4 : (n == 0) = true := by rw [beq_iff_eq]; exact h4
       have HE := hide (show okR L n m es k nb mb = false by rw [HO.out, HM.out, decide_eq_true h3, decide_eq_false (fun h => h h4)]; simp)
       clear h1 h2 h3 h4 HR
       go_wp2
       go_ret
       exact ⟨5, rfl, by rw [HE.out]; rfl, HB.out⟩
      ·have d4 : (n == 0) = false := by rw [beq_eq_false_iff_ne]; exact h4
       have HE := hide (show okR L n m es k nb mb = rb by rw [HO.out, HM.out, decide_eq_true h3, decide_eq_true h4]; simp)
       have HRf := hide (HR.out (by first | rfl | trivial) HM.out h3 h4 (by first | rfl | trivial) w2 HB.out)
       clear h1 h2 h3 h4 HR
       go_wp2_with fail
       (with_reducible refine HRf.out.mono ?_)
       rintro e w3 ⟨rfl, hB3⟩
       have HB3 := hide (HB.out.trans (hB3.mono HB.out.size))
       clear hB3
       cases rb
       ·go_wp2
        go_ret
        exact ⟨23, rfl, by rw [HE.out]; rfl, HB3.out⟩
       ·go_wp2
        go_ret
        exact ⟨0, rfl, by rw [HE.out]; rfl, HB3.out⟩
     ·have d3 : ((k : Int) != n) = true := by rw [bne_iff_ne]; exact h3
      have HE := hide (show okR L n m es k nb mb = false by rw [HO.out, HM.out, decide_eq_false h3]; simp)
      clear h1 h2 h3 HR
      go_wp2
      go_ret
      exact ⟨11, rfl, by rw [HE.out]; rfl, HB.out⟩
    ·have d2 : decide (256 < m) = true := decide_eq_true (by omega)
     have HE := hide (show okR L n m es k nb mb = false by rw [HO.out, HOM.out, decide_eq_false h2]; simp)
     clear h1 h2 HR
     go_wp2
     go_ret
     exact ⟨2, rfl, by rw [HE.out]; rfl, HB.out⟩
   ·have d1 : decide (m < 1) = true := decide_eq_true (by omega)
    have HE := hide (show okR L n m es k nb mb = false by rw [HO.out, HOM.out, decide_eq_false h1]; simp)
    clear h1 HR
    go_wp2
    go_ret
    exact ⟨2, rfl, by rw [HE.out]; rfl, HB.out⟩
end Go.Proofs.YtbnpjoiojhnimaaGreatDoor
namespace Go.Proofs.YtbnpjoiojhnimaaGreatDoor
def fsN (f : Nat → Int) (n : Nat) : Int := match (List.range n).find? (fun k => f k != 0) with
 | some k => f k
 | none => 0
theorem fsN_ok {f : Nat → Int} {n : Nat} (h : ∀ k, k < n → f k = 0) : fsN f n = 0 := by
 unfold fsN
 have : (List.range n).find? (fun k => f k != 0) = none := by
  rw [List.find?_eq_none]
  intro x hx
  simp [h x (List.mem_range.1 hx)]
 rw [this]
theorem fsN_at {f : Nat → Int} {n k : Nat} (hk : k < n) (h : ∀ j, j < k → f j = 0) (h0 : f k ≠ 0) : fsN f n = f k := by
 unfold fsN
 have : (List.range n).find? (fun k => f k != 0) = some k := by
  rw [List.find?_range_eq_some]
  refine ⟨by simpa using h0, List.mem_range.2 hk, fun j hj => by simp [h j hj]⟩
 rw [this]
theorem fsN_zero {f : Nat → Int} {n : Nat} (h : fsN f n = 0) : ∀ k, k < n → f k = 0 := by
 intro k hk
 refine Decidable.byContradiction fun h0 => ?_
 unfold fsN at h
 split at h
 ·rename_i j hj
  have := List.find?_some hj
  simp [h] at this
 ·rename_i hn
  rw [List.find?_eq_none] at hn
  exact hn k (List.mem_range.2 hk) (by simpa using h0)
end Go.Proofs.YtbnpjoiojhnimaaGreatDoor
namespace Go.Proofs.YtbnpjoiojhnimaaGreatDoor
open Go.RowKit
set_option maxHeartbeats 1000000 in
theorem cmpNaN_any (x : Int) (w : World) : Calls Tryz.prog 244 #[.int .i64 x] w fun e w' => e = .returned (.bool false) ∧ w' = w := by
 have h : (x != x) = false := by simp
 go_enter Tryz.func244, Tryz.ntmps244
 go_wp2
 go_ret
 exact ⟨rfl, rfl⟩
set_option maxHeartbeats 1000000 in
theorem slNaNI_any (x : Int) (w : World) : Calls Tryz.prog 246 #[.int .i64 x] w fun e w' => e = .returned (.bool false) ∧ w' = w := by
 have h : (x != x) = false := by simp
 go_enter Tryz.func246, Tryz.ntmps246
 go_wp2
 go_ret
 exact ⟨rfl, rfl⟩
set_option maxHeartbeats 1000000 in
theorem cmpLessI_any (x y : Int) (w : World) : Calls Tryz.prog 245 #[.int .i64 x, .int .i64 y] w fun e w' => e = .returned (.bool (decide (x < y))) ∧ w' = w := by
 have H := hide (fun W => cmpNaN_any x W)
 go_enter Tryz.func245, Tryz.ntmps245
 go_wp2_with (go_at_call 244; refine (H.out _).mono ?_; rintro e w' ⟨rfl, rfl⟩)
 go_ret
 exact ⟨rfl, rfl⟩
set_option maxRecDepth 100000 in
set_option maxHeartbeats 1000000 in
theorem slBSI_any (xs : List Int) (x : Int) (A : Option Addr) (c : Nat) (w : World) (hR : RowI w A xs) (hb : xs.length ≤ 4294967296) :
  Calls Tryz.prog 192 #[.slice A xs.length c, .int .i64 x] w fun e w' => ∃ (i : Nat) (b : Bool), e = .returned (.tuple #[.int .i64 i, .bool b]) ∧ (b = true → i < xs.length ∧ xs.getD i 0 = x) ∧ w' = w := by
 have HR := hide hR
 have HL := hide (fun a W => cmpLessI_any a x W)
 have HN := hide (fun a W => slNaNI_any a W)
 clear hR
 go_enter Tryz.func192, Tryz.ntmps192
 go_wp2
 go_loopw [7, 8] (fun iv jv wr => ∃ i j : Nat, i ≤ j ∧ j ≤ xs.length ∧ iv = .int .i64 i ∧ jv = .int .i64 j ∧ wr = w) (fun iv jv _ => (intOf jv).toNat - (intOf iv).toNat)
 case atStart => exact ⟨0, xs.length, Nat.zero_le _, Nat.le_refl _, rfl, rfl, rfl⟩
 case round =>
  obtain ⟨i, j, hij, hj, rfl, rfl, rfl⟩ := hrel
  by_cases hlt : i < j
  ·obtain ⟨b, o, rfl, _, hc⟩ := HR.out (by omega)
   have hm : (i + j) / 2 < xs.length := by omega
   have c1 := hc ((i + j) / 2) hm
   have hi1 : (i : Int) < (j : Int) := by omega
   have hm2 : ((i : Int) + (j : Int)) / 2 = (((i + j) / 2 : Nat) : Int) := by omega
   obtain ⟨h, hh⟩ : ∃ h, (i + j) / 2 = h := ⟨_, rfl⟩
   have hih : i ≤ h := by omega
   have hhj : h < j := by omega
   rw [hh] at hm2
   rw [show xs[(i + j) / 2] = xs.getD h 0 by rw [← hh]; simp [hm], hh] at c1
   rw [hh] at hm
   clear hh hc
   obtain ⟨y, hy⟩ : ∃ y, xs.getD h 0 = y := ⟨_, rfl⟩
   rw [hy] at c1
   cases hlx : decide (y < x)
   ·have HL1 := hide (hlx ▸ HL.out y wr)
    clear hlx hy
    go_wp2_with (go_at_call 245; refine HL1.out.mono ?_; rintro e w' ⟨rfl, rfl⟩)
    go_roundw
    case rel => exact ⟨i, h, hih, by omega, rfl, rfl, trivial⟩
    case measure => simp [intOf]; omega
   ·have HL1 := hide (hlx ▸ HL.out y wr)
    clear hlx hy
    go_wp2_with (go_at_call 245; refine HL1.out.mono ?_; rintro e w' ⟨rfl, rfl⟩)
    go_roundw
    case rel => exact ⟨h + 1, j, by omega, hj, by go_num, rfl, trivial⟩
    case measure => simp [intOf]; omega
  ·obtain rfl : i = j := by omega
   by_cases hin : i < xs.length
   ·obtain ⟨b, o, rfl, _, hc⟩ := HR.out (by omega)
    have c1 := hc i hin
    have hi1 : (i : Int) < (xs.length : Int) := by omega
    have hg : xs.getD i 0 = xs[i] := by simp [hin]
    obtain ⟨y, hy⟩ : ∃ y, xs[i] = y := ⟨_, rfl⟩
    rw [hy] at c1 hg
    have HG := hide hg
    clear hc hy hg
    by_cases hyx : y = x
    ·have hyb : (y == x) = true := by simpa using hyx
     go_wp2
     go_ret2
     exact ⟨i, true, rfl, fun _ => ⟨hin, by rw [HG.out]; exact hyx⟩, rfl⟩
    ·have hyb : (y == x) = false := by simpa using hyx
     go_wp2_with (go_at_call 246; refine (HN.out _ _).mono ?_; rintro e w' ⟨rfl, rfl⟩)
     go_ret2
     exact ⟨i, false, rfl, fun h => Bool.noConfusion h, rfl⟩
   ·have hi1 : decide ((i : Int) < (xs.length : Int)) = false := by simp; omega
    have hi2 : decide (i < xs.length) = false := by simp; omega
    go_wp2
    go_ret2
    exact ⟨i, false, rfl, fun h => Bool.noConfusion h, rfl⟩
def setAt (S : Int) (xs : List Int) (k : Nat) : Int := if xs.getD k 0 < 0 ∨ S ≤ xs.getD k 0 then 25 else if 0 < k ∧ xs.getD k 0 ≤ xs.getD (k - 1) 0 then 10 else 0
def setE (S : Int) (xs : List Int) : Int := fsN (setAt S xs) xs.length
set_option maxRecDepth 100000 in
set_option maxHeartbeats 1000000 in
theorem grSet_any (L S : Int) (E : Option Addr) (m d : Nat) (xs : List Int) (A : Option Addr) (c : Nat) (w : World) (hR : RowI w A xs) (hb : xs.length ≤ 9223372036854775807) :
  Calls Tryz.prog 130 #[.agg #[.int .i64 L, .int .i64 S, .slice E m d], .slice A xs.length c] w fun e w' => e = .returned (.int .i64 (setE S xs)) ∧ Below w.heap.size w w' := by
 have hB0 : Below w.heap.size w (w.alloc (.cells #[.int .i64 L, .int .i64 S, .slice E m d] 24)) := (Below.refl _ w).alloc (Nat.le_refl _) _
 have HR := hide (hR.below hB0)
 have hk1 : (w.alloc (.cells #[.int .i64 L, .int .i64 S, .slice E m d] 24)).cell? ⟨w.heap.size, 1, none⟩ = some (.int .i64 S) := (cell_of_row _ _ 1 _ _ _ (heap_alloc_new w _)).trans rfl
 have HAT := hide (fun k (hk : k < xs.length) (h : ∀ j, j < k → setAt S xs j = 0) (h0 : setAt S xs k ≠ 0) => show setE S xs = setAt S xs k from fsN_at hk h h0)
 have HOK := hide (show (∀ k, k < xs.length → setAt S xs k = 0) → setE S xs = 0 from fsN_ok)
 clear hR
 go_enter Tryz.func130, Tryz.ntmps130
 go_wp2_with fail
 generalize w.alloc (.cells #[.int .i64 L, .int .i64 S, .slice E m d] 24) = W1 at hB0 HR hk1 ⊢
 have HB := hide hB0
 clear hB0
 go_wp2
 go_loopw [9] (fun iv wr => ∃ k : Nat, k ≤ xs.length ∧ Hid (∀ j, j < k → setAt S xs j = 0) ∧ iv = .int .i64 k ∧ wr = W1) (fun iv _ => xs.length - (intOf iv).toNat)
 case atStart => exact ⟨0, Nat.zero_le _, hide fun j h => absurd h (by omega), rfl, rfl⟩
 case round =>
  obtain ⟨k, hk, hsame, rfl, rfl⟩ := hrel
  by_cases hlt : k < xs.length
  ·obtain ⟨b, o, rfl, _, hc⟩ := HR.out (by omega)
   have c1 := hc k hlt
   have hk0 : (0 : Int) ≤ (k : Int) := by omega
   have hk2 : (k : Int) < (xs.length : Int) := by omega
   have hgk : xs.getD k 0 = xs[k] := by simp [hlt]
   obtain ⟨x, hx⟩ : ∃ x, xs[k] = x := ⟨_, rfl⟩
   rw [hx] at c1 hgk
   have HGK := hide hgk
   have HC := hide hc
   clear hx hgk hc
   have HNX := hide (show setAt S xs k = 0 → ∀ j, j < k + 1 → setAt S xs j = 0 from fun h j hj => by
    by_cases e : j < k
    ·exact hsame.out j e
    ·obtain rfl : j = k := by omega
     exact h)
   by_cases h0 : x < 0
   ·have HV := hide (HAT.out k hlt hsame.out (by unfold setAt; rw [HGK.out, if_pos (.inl h0)]; decide))
    have HV2 := hide (show setAt S xs k = 25 by unfold setAt; rw [HGK.out, if_pos (.inl h0)])
    have d0 : decide (x < 0) = true := decide_eq_true h0
    clear HNX
    go_wp2
    go_ret
    exact ⟨by rw [HV.out, HV2.out]; rfl, HB.out⟩
   ·have d0 : decide (x < 0) = false := decide_eq_false h0
    by_cases h1 : S ≤ x
    ·have HV := hide (HAT.out k hlt hsame.out (by unfold setAt; rw [HGK.out, if_pos (.inr h1)]; decide))
     have HV2 := hide (show setAt S xs k = 25 by unfold setAt; rw [HGK.out, if_pos (.inr h1)])
     have d1 : decide (S ≤ x) = true := decide_eq_true h1
     clear HNX
     go_wp2
     go_ret
     exact ⟨by rw [HV.out, HV2.out]; rfl, HB.out⟩
    ·have d1 : decide (S ≤ x) = false := decide_eq_false h1
     have HS := hide (show setAt S xs k = if 0 < k ∧ x ≤ xs.getD (k - 1) 0 then 10 else 0 by unfold setAt; rw [HGK.out, if_neg (by omega)])
     by_cases hz : k = 0
     ·subst hz
      have HN2 := hide (HNX.out (by rw [HS.out]; simp))
      have c0 : wr.cell? ⟨b, o, none⟩ = some (.int .i64 x) := c1
      clear HNX c1
      go_wp2
      go_roundw
      case rel => exact ⟨1, by omega, HN2, by go_num, trivial⟩
      case measure => simp [intOf]; omega
     ·have c2 := HC.out (k - 1) (by omega)
      have hgk2 : xs.getD (k - 1) 0 = xs[k - 1] := by simp [show k - 1 < xs.length by omega]
      obtain ⟨j, rfl⟩ : ∃ j, k = j + 1 := ⟨k - 1, by omega⟩
      simp only [Nat.add_sub_cancel] at c2 hgk2 HS
      obtain ⟨y, hy⟩ : ∃ y, xs[j] = y := ⟨_, rfl⟩
      rw [hy] at c2 hgk2
      rw [hgk2] at HS
      clear hy hgk2 HC
      have e1 : ((j + 1 : Nat) : Int) - 1 = (j : Int) := by omega
      have e2 : (0 : Int) < ((j + 1 : Nat) : Int) := by omega
      by_cases hxy : x ≤ y
      ·have d2 : decide (x ≤ y) = true := decide_eq_true hxy
       have HV := hide (HAT.out (j + 1) hlt hsame.out (by rw [HS.out, if_pos ⟨by omega, hxy⟩]; decide))
       have HV2 := hide (show setAt S xs (j + 1) = 10 by rw [HS.out, if_pos ⟨by omega, hxy⟩])
       clear HNX
       go_wp2
       go_ret
       exact ⟨by rw [HV.out, HV2.out]; rfl, HB.out⟩
      ·have d2 : decide (x ≤ y) = false := decide_eq_false hxy
       have HN2 := hide (HNX.out (by rw [HS.out, if_neg (by omega)]))
       clear HNX
       go_wp2
       go_roundw
       case rel => exact ⟨j + 1 + 1, by omega, HN2, by go_num, trivial⟩
       case measure => simp [intOf]; omega
  ·obtain rfl : k = xs.length := by omega
   go_wp2
   go_ret
   exact ⟨by rw [HOK.out hsame.out]; rfl, HB.out⟩
section
def Edg.cells (e : Edg) : List Value := [.int .i64 e.f, .int .i64 e.l, .int .i64 e.t]
theorem infoEdge : (Tryz.prog.info? 72).map (fun i => (i.zero, i.size, i.bytes)) = some (some (.agg #[.int .i64 0, .int .i64 0, .int .i64 0]), 3, 24) := by kernel_rfl
def Eds (w : World) (B : Nat) (v : Value) (xs : List Edg) : Prop := w.ownsRow B 72 3 v xs.length (xs.flatMap Edg.cells)
theorem Eds.nil_ (w : World) (B : Nat) : Eds w B (.slice none 0 0) [] := World.ownsRow_nil _ _ _ _
theorem Eds.alloc {w : World} {B : Nat} {v : Value} {xs : List Edg} (h : Eds w B v xs) (o : Obj) : Eds (w.alloc o) B v xs := World.ownsRow.alloc h o
theorem run_app_ed (w : World) (ty : TypeId) (B : Nat) (v : Value) (xs : List Edg) (hown : Eds w B v xs) (g : Nat) (x : Edg)
  (hblk : w.heap[g]? = some (.cells x.cells.toArray 72 (0, 0))) (hb : xs.length ≤ 4294967296) (hbase : B ≤ w.heap.size) :
  ∃ v' w', (Builtin.append_ #[22, 22] ty #[v, .slice (some ⟨g, 0, none⟩) 1 1]).run Tryz.prog w = .ok v' w' ∧ Eds w' B v' (xs ++ [x]) ∧ w.grownBy w' v.ownBlock := by
 obtain ⟨i0, hi, hz0, hz1, hz2⟩ := info_parts infoEdge
 obtain ⟨v', w', h1, h2, h3, _⟩ := run_append_own (P := Tryz.prog) w B 22 ty 72 i0 _ 3 24 Tryz.underlying22 hi hz0 hz1 hz2 rfl (by decide) v xs.length (xs.flatMap Edg.cells) hown ⟨g, 0, none⟩ 1 1 x.cells rfl (by
   intro j u hj
   have : (⟨g, 0, none⟩ : Addr).add j = ⟨g, j, none⟩ := by unfold Addr.add; split <;> simp_all
   rw [this, cell_of_row w g j _ 72 (0, 0) hblk]
   simpa using hj) (by
   intro u hu
   simp [Edg.cells] at hu
   rcases hu with rfl | rfl | rfl <;> rfl) (by unfold maxLen; omega) (by omega) hbase
 refine ⟨v', w', h1, ?_, h3⟩
 unfold Eds
 rw [List.length_append, List.flatMap_append]
 simpa using h2
theorem wp_app_ed {w : World} {o : Oper} {a : Act} {K : Act → World → Prop} {Q : Exit → Act → World → Prop} (s x : Operand)
  (ho : o.op = .call { callee := .builtin .append, args := #[s, x], argTypes := #[22, 22] })
  (B : Nat) (v : Value) (xs : List Edg) (hs : a.eval s = v) (hown : Eds w B v xs)
  (g : Nat) (y : Edg) (hx : a.eval x = .slice (some ⟨g, 0, none⟩) 1 1) (hblk : w.heap[g]? = some (.cells y.cells.toArray 72 (0, 0)))
  (hb : xs.length ≤ 4294967296) (hbase : B ≤ w.heap.size)
  (h : ∀ v' w', Eds w' B v' (xs ++ [y]) → w.grownBy w' v.ownBlock → K (a.put o.dst v') w') : o.wp Tryz.prog a w K Q := by
 obtain ⟨v', w', hr, h2, h3⟩ := run_app_ed w o.type B v xs hown g y hblk hb hbase
 unfold Oper.wp execOp
 simp only [ho, resolve, invoke, builtin, Sem.run_bind, Sem.run_pure, Result.andThen_ok, List.map_toArray, List.map_cons, List.map_nil, hs, hx, hr]
 exact h v' w' h2 h3
theorem wpList_app_ed {w : World} {ops : Array Oper} {rest : List Oper} {o : Oper} {a : Act} {Q : Exit → Act → World → Prop} (hgd : o.guard = none) (s x : Operand)
  (ho : o.op = .call { callee := .builtin .append, args := #[s, x], argTypes := #[22, 22] })
  (B : Nat) (v : Value) (xs : List Edg) (hs : a.eval s = v) (hown : Eds w B v xs)
  (g : Nat) (y : Edg) (hx : a.eval x = .slice (some ⟨g, 0, none⟩) 1 1) (hblk : w.heap[g]? = some (.cells y.cells.toArray 72 (0, 0)))
  (hb : xs.length ≤ 4294967296) (hbase : B ≤ w.heap.size)
  (h : ∀ v' w', Eds w' B v' (xs ++ [y]) → w.grownBy w' v.ownBlock → wpList Tryz.prog ops Q rest (a.put o.dst v') w') : wpList Tryz.prog ops Q (o :: rest) a w :=
 wpList_plain hgd fun _ hK => wp_app_ed s x ho B v xs hs hown g y hx hblk hb hbase fun v' w' h2 h3 => hK _ _ (h v' w' h2 h3)
section
variable {w w' : World} {B : Nat} {v : Value} {xs : List Edg}
theorem Eds.shape (h : Eds w B v xs) : ∃ ad cap, v = .slice ad xs.length cap := by
 rcases h.2 with ⟨hv, hn⟩ | ⟨g, cap, cur, hv, _⟩
 ·exact ⟨none, 0, by rw [hv, hn]⟩
 ·exact ⟨_, cap, hv⟩
theorem Eds.form (h : Eds w B v xs) (hp : 0 < xs.length) : ∃ g cap, v = .slice (some ⟨g, 0, none⟩) xs.length cap ∧ B ≤ g ∧ g < w.heap.size := by
 rcases h.2 with ⟨_, hn⟩ | ⟨g, cap, cur, hv, hb, hg, _⟩
 ·omega
 ·exact ⟨g, cap, hv, hb, (Array.getElem?_eq_some_iff.1 hg).1⟩
theorem Eds.fresh {A : Option Addr} {n c : Nat} (h : Eds w B (.slice A n c) xs) : ∀ a, A = some a → B ≤ a.block := by
 rintro a rfl
 rcases h.2 with ⟨e, _⟩ | ⟨g, cap, cur, hv, hb, _⟩
 ·cases e
 ·simp only [Value.slice.injEq, Option.some.injEq] at hv
  rw [hv.1]; exact hb
theorem Eds.rd {A : Option Addr} {n c : Nat} (h : Eds w B (.slice A n c) xs) : n = xs.length ∧ RowE w A xs := by
 rcases h.2 with ⟨e, hn⟩ | ⟨g, cap, cur, hv, hb, hg, h4, h5, h6, h7⟩
 ·simp only [Value.slice.injEq] at e
  refine ⟨by omega, fun h0 => by omega⟩
 ·simp only [Value.slice.injEq] at hv
  obtain ⟨rfl, rfl, rfl⟩ := hv
  refine ⟨rfl, fun h0 => ⟨g, 0, rfl, (Array.getElem?_eq_some_iff.1 hg).1, fun k hk => ?_⟩⟩
  have hlen : (xs.flatMap Edg.cells).length = xs.length * 3 := by
   clear h7 h h4 hk h0
   induction xs with
   | nil => rfl
   | cons x xs ih => rw [List.flatMap_cons, List.length_append, ih]; simp [Edg.cells]; omega
  have hat : ∀ j (hj : j < 3), (xs.flatMap Edg.cells)[k * 3 + j]? = some ((xs[k].cells)[j]'(by simp [Edg.cells]; omega)) := by
   clear h7 h h4 hlen h0
   induction xs generalizing k with
   | nil => simp at hk
   | cons x xs ih =>
    intro j hj
    rw [List.flatMap_cons]
    cases k with
    | zero => rw [List.getElem?_append_left (by simp [Edg.cells]; omega)]; simp [Edg.cells]
    | succ k =>
     rw [List.getElem?_append_right (by simp [Edg.cells]; omega)]
     have := ih k (by simpa using hk) j hj
     simp only [List.getElem_cons_succ]
     rw [← this]
     congr 1
     simp [Edg.cells]; omega
  have hc : ∀ j (hj : j < 3), w.cell? ⟨g, 0 + k * 3 + j, none⟩ = some ((xs[k].cells)[j]'(by simp [Edg.cells]; omega)) := by
   intro j hj
   rw [cell_of_row w g _ _ 72 (0, 0) hg, ← hat j hj, ← h7]
   rw [List.getElem?_take, if_pos (by omega)]
   simp
  exact ⟨hc 0 (by decide), hc 1 (by decide), hc 2 (by decide)⟩
end
end
section
def kpOne (xs : List Int) (p q : Edg) : Prop := ∃ i j : Nat, p.f = i ∧ p.t = j ∧ p.l = q.l ∧ i < xs.length ∧ j < xs.length ∧ xs.getD i 0 = q.f ∧ xs.getD j 0 = q.t
inductive KpR (xs : List Int) : List Edg → List Edg → Prop where
 | nil : KpR xs [] []
 | skip {ps es : List Edg} {e : Edg} : KpR xs ps es → KpR xs ps (es ++ [e])
 | take {ps es : List Edg} {p e : Edg} : KpR xs ps es → kpOne xs p e → KpR xs (ps ++ [p]) (es ++ [e])
theorem KpR.len {xs : List Int} {ps es : List Edg} (h : KpR xs ps es) : ps.length ≤ es.length := by
 induction h with
 | nil => exact Nat.le_refl _
 | skip _ ih => simp; omega
 | take _ _ ih => simp; omega
structure KpS (W0 W : World) (Z P : Nat) (L n : Int) (v : Value) (ps : List Edg) : Prop where
 hp : W.heap[P]? = some (.cells #[.int .i64 L, .int .i64 n, v] 24 (0, 0))
 ed : Eds W (P + 1) v ps
 bel : Below Z W0 W
 o : W.heap[P - 1]? = some (.cells #[.int .i64 0, .int .i64 0, .slice none 0 0] 24 (0, 0))
section
variable {W0 W W' : World} {Z P : Nat} {L n : Int} {v : Value} {ps : List Edg}
theorem Eds.below {B : Nat} (h : Eds W B v ps) (hB : Below W.heap.size W W') : Eds W' B v ps := by
 refine ⟨h.1, ?_⟩
 rcases h.2 with hn | ⟨g, cap, cur, rfl, hb, hg, rest⟩
 ·exact .inl hn
 ·exact .inr ⟨g, cap, cur, rfl, hb, (hB.block g (Array.getElem?_eq_some_iff.1 hg).1).trans hg, rest⟩
theorem Eds.setCell {B : Nat} (h : Eds W B v ps) {p : Addr} (hp : p.block < B) (u : Value) : Eds (W.setCell p u) B v ps := by
 refine ⟨h.1, ?_⟩
 rcases h.2 with hn | ⟨g, cap, cur, rfl, hb, hg, rest⟩
 ·exact .inl hn
 ·exact .inr ⟨g, cap, cur, rfl, hb, (Below.heap_setCell _ p _ g (by omega)).trans hg, rest⟩
theorem KpS.lt (h : KpS W0 W Z P L n v ps) : P < W.heap.size := (Array.getElem?_eq_some_iff.1 h.hp).1
theorem KpS.below (h : KpS W0 W Z P L n v ps) (hz : Z ≤ W0.heap.size) (hB : Below W.heap.size W W') : KpS W0 W' Z P L n v ps :=
 ⟨(hB.block P h.lt).trans h.hp, h.ed.below hB, h.bel.trans (hB.mono (Nat.le_trans hz h.bel.size)), (hB.block (P - 1) (Array.getElem?_eq_some_iff.1 h.o).1).trans h.o⟩
theorem KpS.app (h : KpS W0 W Z P L n v ps) (hz : Z ≤ W0.heap.size) (hZP : Z + 1 ≤ P - 1) {o : Obj} {v1 : Value} {x : Edg} (hg : (W.alloc o).grownBy W' v.ownBlock) (ho : Eds W' (P + 1) v1 (ps ++ [x])) :
  W'.cell? ⟨P, 2, none⟩ = some v ∧ W'.frozen? ⟨P, 2, none⟩ = false ∧ KpS W0 (W'.setCell ⟨P, 2, none⟩ v1) Z P L n v1 (ps ++ [x]) := by
 have hP := h.lt
 have hown : ∀ g, v.ownBlock = some g → P + 1 ≤ g := by
  intro g hg
  rcases h.ed.2 with ⟨rfl, _⟩ | ⟨g', cap, cur, rfl, hb, _⟩
  ·cases hg
  ·obtain rfl : g' = g := by simpa [Value.ownBlock] using hg
   exact hb
 have hne : ∀ k, k ≤ P → some k ≠ v.ownBlock := fun k hk e => by have := hown k e.symm; omega
 have h1 : W'.heap[P]? = some (.cells #[.int .i64 L, .int .i64 n, v] 24 (0, 0)) := (hg.block P (by simp; omega) (hne P (Nat.le_refl _))).trans ((heap_alloc_old W o hP).trans h.hp)
 have h2 : W'.heap[P - 1]? = some (.cells #[.int .i64 0, .int .i64 0, .slice none 0 0] 24 (0, 0)) := (hg.block (P - 1) (by simp; omega) (hne (P - 1) (by omega))).trans ((heap_alloc_old W o (by omega)).trans h.o)
 refine ⟨(cell_of_row _ _ 2 _ _ _ h1).trans rfl, by simp [World.frozen?, h1], ⟨?_, ?_, ?_, ?_⟩⟩
 ·simp [World.setCell, Array.getElem?_modify, h1]
 ·refine ⟨ho.1, ?_⟩
  rcases ho.2 with hn | ⟨g, cap, cur, rfl, hb, hg, rest⟩
  ·exact .inl hn
  ·exact .inr ⟨g, cap, cur, rfl, hb, (Below.heap_setCell _ ⟨P, 2, none⟩ _ g (by show g ≠ P; omega)).trans hg, rest⟩
 ·refine (((h.bel.alloc (Nat.le_trans hz h.bel.size) o).grown hg (by simp; have := h.bel.size; omega) (fun k e => by have := hown k e; omega))).setCell (p := ⟨P, 2, none⟩) (by show Z ≤ P; omega) v1
 ·rw [Below.heap_setCell _ ⟨P, 2, none⟩ _ _ (by show P - 1 ≠ P; omega)]
  exact h2
end
theorem graphSize : (Tryz.prog.info? 24).map (·.size) = some 3 := by kernel_rfl
theorem ret_graph {fn : Func} {p : Tmp} (h : fn.results = #[.cell p 24]) (tmps : Array Value) (w : World) (g : Nat) (cs : Array Value) (hp : tmps.getD p undef = .pointer (some ⟨g, 0, none⟩)) (hg : w.heap[g]? = some (.cells cs 24 (0, 0))) (hcs : cs.size = 3) :
  (results fn tmps).run Tryz.prog w = .ok (.agg cs) w := by
 rw [results_cell_one h, hp]
 simp [asAddr, Result.andThen, run_loadVar_row w g 24 24 cs (0, 0) _ hg Tryz.underlying24 rfl (by rw [hcs]; exact graphSize)]
set_option maxRecDepth 100000 in
set_option maxHeartbeats 2000000 in
theorem grkeep_any (L S : Int) (es : List Edg) (E : Option Addr) (d : Nat) (xs : List Int) (A : Option Addr) (c : Nat) (w : World) (hE : RowE w E es) (hel : es.length ≤ 4294967296) (hR : RowI w A xs) (hb : xs.length ≤ 4294967296) :
  Calls Tryz.prog 131 #[.agg #[.int .i64 L, .int .i64 S, .slice E es.length d], .slice A xs.length c] w fun e w' => ∃ (ps : List Edg) (G : Option Addr) (k : Nat), e = .returned (.agg #[.int .i64 L, .int .i64 xs.length, .slice G ps.length k]) ∧ KpR xs ps es ∧ RowE w' G ps ∧ (∀ a, G = some a → w.heap.size ≤ a.block) ∧ Below w.heap.size w w' := by
 obtain ⟨Z, hZ⟩ : ∃ Z, w.heap.size = Z := ⟨_, rfl⟩
 have HE := hide (fun W (h : Below Z w W) => hE.below (hZ ▸ h))
 have HR := hide (fun W (h : Below Z w W) => hR.below (hZ ▸ h))
 have HB := hide (fun x W (h : RowI W A xs) => slBSI_any xs x A c W h hb)
 have HZ := hide hZ
 clear hE hR
 have hK0 : KpS w (((w.alloc (.cells #[.int .i64 L, .int .i64 S, .slice E es.length d] 24)).alloc (.cells #[.int .i64 0, .int .i64 0, .slice none 0 0] 24)).alloc (.cells #[.int .i64 L, .int .i64 xs.length, .slice none 0 0] 24)) Z (Z + 1 + 1) L xs.length (.slice none 0 0) [] := by
  rw [← hZ]
  refine ⟨?_, Eds.nil_ _ _, (((Below.refl _ w).alloc (Nat.le_refl _) _).alloc (by simp) _).alloc (by simp; omega) _, ?_⟩
  ·rw [show w.heap.size + 1 + 1 = ((w.alloc (.cells #[.int .i64 L, .int .i64 S, .slice E es.length d] 24)).alloc (.cells #[.int .i64 0, .int .i64 0, .slice none 0 0] 24)).heap.size by simp]
   exact heap_alloc_new _ _
  ·rw [heap_alloc_old _ _ (by simp)]
   rw [show w.heap.size + 1 + 1 - 1 = (w.alloc (.cells #[.int .i64 L, .int .i64 S, .slice E es.length d] 24)).heap.size by simp]
   exact heap_alloc_new _ _
 go_enter Tryz.func131, Tryz.ntmps131
 go_wp2_with fail
 generalize (((w.alloc (.cells #[.int .i64 L, .int .i64 S, .slice E es.length d] 24)).alloc (.cells #[.int .i64 0, .int .i64 0, .slice none 0 0] 24)).alloc (.cells #[.int .i64 L, .int .i64 xs.length, .slice none 0 0] 24)) = W1 at hK0 ⊢
 go_loopw [20] (fun iv wr => ∃ (k : Nat) (v : Value) (ps : List Edg), k ≤ es.length ∧ iv = .int .i64 k ∧ Hid (KpS w wr Z (Z + 1 + 1) L xs.length v ps) ∧ Hid (KpR xs ps (es.take k))) (fun iv _ => es.length - (intOf iv).toNat)
 case atStart => exact ⟨0, _, [], Nat.zero_le _, rfl, hide hK0, hide (by simpa using KpR.nil)⟩
 case round =>
  obtain ⟨k, v, ps, hk, rfl, HK, HP⟩ := hrel
  clear hK0
  by_cases hlt : k < es.length
  ·obtain ⟨b, o, rfl, _, hc⟩ := HE.out wr HK.out.bel (by omega)
   obtain ⟨c0, c1, c2⟩ := hc k hlt
   have hk0 : (0 : Int) ≤ (k : Int) := by omega
   have hk1 : (k : Int) < (es.length : Int) := by omega
   have HT := hide (List.take_succ_eq_append_getElem hlt)
   obtain ⟨q, hq⟩ : ∃ q, es[k] = q := ⟨_, rfl⟩
   rw [hq] at c0 c1 c2 HT
   clear hc hq
   have HK2 := hide (HK.out.below (by omega) ((Below.refl _ wr).alloc (Nat.le_refl _) (.cells #[.int .i64 q.f, .int .i64 q.l, .int .i64 q.t] 72)))
   have hn := heap_alloc_new wr (.cells #[.int .i64 q.f, .int .i64 q.l, .int .i64 q.t] 72)
   have f0 := (cell_of_row _ _ 0 _ _ _ hn).trans rfl
   have f1 := (cell_of_row _ _ 1 _ _ _ hn).trans rfl
   have f2 := (cell_of_row _ _ 2 _ _ _ hn).trans rfl
   simp only [List.getElem?_toArray, List.getElem?_cons_zero, List.getElem?_cons_succ] at f0 f1 f2
   go_wp2_with fail
   clear hn
   generalize wr.alloc (.cells #[.int .i64 q.f, .int .i64 q.l, .int .i64 q.t] 72) = W2 at HK2 f0 f1 f2 ⊢
   refine (HB.out q.f W2 (HR.out W2 HK2.out.bel)).mono ?_
   rintro e w' ⟨i, b1, rfl, hi, rfl⟩
   go_wp2_with fail
   refine (HB.out q.t w' (HR.out w' HK2.out.bel)).mono ?_
   rintro e w2 ⟨j, b2, rfl, hj, rfl⟩
   have HSk := hide (HP.out.skip (e := q))
   rw [← HT.out] at HSk
   cases b1
   ·clear hi hj
    go_wp2
    go_roundw
    case rel => exact ⟨k + 1, v, ps, hlt, by go_num, HK2, HSk⟩
    case measure => simp [intOf]; omega
   ·cases b2
    ·clear hi hj
     go_wp2
     go_roundw
     case rel => exact ⟨k + 1, v, ps, hlt, by go_num, HK2, HSk⟩
     case measure => simp [intOf]; omega
    ·obtain ⟨hi1, hi2⟩ := hi rfl
     obtain ⟨hj1, hj2⟩ := hj rfl
     have HTk := hide (HP.out.take (p := ⟨i, q.l, j⟩) (e := q) ⟨i, j, rfl, rfl, rfl, hi1, hj1, hi2, hj2⟩)
     rw [← HT.out] at HTk
     have hpc : w2.cell? ⟨Z + 1 + 1, 2, none⟩ = some v := (cell_of_row _ _ 2 _ _ _ HK2.out.hp).trans rfl
     have hpl : ps.length ≤ 4294967296 := Nat.le_trans HP.out.len (by rw [List.length_take]; omega)
     have HLt := hide HK2.out.lt
     clear hi hj hi2 hj2 HSk HK HP
     go_wp2_with (at_builtin; refine wpList_app_ed rfl (.tmp 43) (.tmp 49) rfl (Z + 1 + 1 + 1) _ _ rfl (HK2.out.ed.alloc _) w2.heap.size ⟨i, q.l, j⟩ rfl (heap_alloc_new w2 _) hpl (by have := HLt.out; simp; omega) ?_; intro v1 wd hown2 hg1; obtain ⟨ad1, cp1, rfl⟩ := hown2.shape; obtain ⟨hc3, hf3, hk3⟩ := HK2.out.app (by omega) (by omega) hg1 hown2)
     have HK3 := hide hk3
     simp only [List.length_append, List.length_cons, List.length_nil, Nat.zero_add] at HK3
     clear hk3
     go_roundw
     case rel => exact ⟨k + 1, _, _, hlt, by go_num, HK3, HTk⟩
     case measure => simp [intOf]; omega
  ·obtain rfl : k = es.length := by omega
   obtain ⟨ad, cp, rfl⟩ := HK.out.ed.shape
   have hp := HK.out.hp
   have ho := HK.out.o
   simp only [Nat.add_sub_cancel] at ho
   have p0 := (cell_of_row _ _ 0 _ _ _ hp).trans rfl
   have p1 := (cell_of_row _ _ 1 _ _ _ hp).trans rfl
   have p2 := (cell_of_row _ _ 2 _ _ _ hp).trans rfl
   have o0 := (cell_of_row _ _ 0 _ _ _ ho).trans rfl
   have o1 := (cell_of_row _ _ 1 _ _ _ ho).trans rfl
   have o2 := (cell_of_row _ _ 2 _ _ _ ho).trans rfl
   simp only [List.getElem?_toArray, List.getElem?_cons_zero, List.getElem?_cons_succ] at p0 p1 p2 o0 o1 o2
   have of_ : ∀ j, wr.frozen? ⟨Z + 1, j, none⟩ = false := fun j => by simp [World.frozen?, ho]
   have he := ((HK.out.ed.setCell (p := ⟨Z + 1, 0, none⟩) (by show Z + 1 < _; omega) (.int .i64 L)).setCell (p := ⟨Z + 1, 1, none⟩) (by show Z + 1 < _; omega) (.int .i64 (xs.length : Int))).setCell (p := ⟨Z + 1, 2, none⟩) (by show Z + 1 < _; omega) (.slice ad ps.length cp)
   have HEd := hide he.rd.2
   have HFr := hide he.fresh
   have HBl := hide (((HK.out.bel.setCell (p := ⟨Z + 1, 0, none⟩) (by show Z ≤ Z + 1; omega) (.int .i64 L)).setCell (p := ⟨Z + 1, 1, none⟩) (by show Z ≤ Z + 1; omega) (.int .i64 (xs.length : Int))).setCell (p := ⟨Z + 1, 2, none⟩) (by show Z ≤ Z + 1; omega) (.slice ad ps.length cp))
   have HPs := hide (show KpR xs ps es by have := HP.out; rwa [List.take_length] at this)
   have hfin : (((wr.setCell ⟨Z + 1, 0, none⟩ (.int .i64 L)).setCell ⟨Z + 1, 1, none⟩ (.int .i64 (xs.length : Int))).setCell ⟨Z + 1, 2, none⟩ (.slice ad ps.length cp)).heap[Z + 1]? = some (.cells #[.int .i64 L, .int .i64 (xs.length : Int), .slice ad ps.length cp] 24 (0, 0)) := by
    simp [World.setCell, Array.getElem?_modify, ho]
   clear he ho
   go_wp2
   refine bodyPost_ret (ret_graph rfl _ _ (Z + 1) _ rfl hfin rfl) rfl ?_
   exact ⟨ps, ad, cp, rfl, HPs.out, HEd.out, fun a ha => by have := HFr.out a ha; have := HZ.out; omega, HZ.out ▸ HBl.out⟩
end
theorem ret_graphE {fn : Func} {p u : Tmp} (h : fn.results = #[.cell p 24, .tmp u]) (tmps : Array Value) (w : World) (g : Nat) (cs : Array Value) (hp : tmps.getD p undef = .pointer (some ⟨g, 0, none⟩)) (hg : w.heap[g]? = some (.cells cs 24 (0, 0))) (hcs : cs.size = 3) :
  (results fn tmps).run Tryz.prog w = .ok (.tuple #[.agg cs, tmps.getD u undef]) w := by
 rw [results_cell_tmp h, hp]
 simp [asAddr, Result.andThen, run_loadVar_row w g 24 24 cs (0, 0) _ hg Tryz.underlying24 rfl (by rw [hcs]; exact graphSize)]
theorem at3 {w : World} {b : Nat} {x0 x1 x2 : Value} {t : TypeId} (h : w.heap[b]? = some (.cells #[x0, x1, x2] t (0, 0))) : w.cell? ⟨b, 0, none⟩ = some x0 ∧ w.cell? ⟨b, 1, none⟩ = some x1 ∧ w.cell? ⟨b, 2, none⟩ = some x2 ∧ ∀ j, w.frozen? ⟨b, j, none⟩ = false :=
 ⟨(cell_of_row _ _ 0 _ _ _ h).trans rfl, (cell_of_row _ _ 1 _ _ _ h).trans rfl, (cell_of_row _ _ 2 _ _ _ h).trans rfl, fun j => by simp [World.frozen?, h]⟩
def KpG (w : World) (L : Int) (xs : List Int) (es : List Edg) (g : Array Value) : Prop := ∃ (ps : List Edg) (G : Option Addr) (k : Nat), g = #[.int .i64 L, .int .i64 xs.length, .slice G ps.length k] ∧ KpR xs ps es ∧ RowE w G ps
theorem set3 {w : World} {b : Nat} {x0 x1 x2 : Value} {t : TypeId} (h : w.heap[b]? = some (.cells #[x0, x1, x2] t (0, 0))) (a0 a1 a2 : Value) :
  (((w.setCell ⟨b, 0, none⟩ a0).setCell ⟨b, 1, none⟩ a1).setCell ⟨b, 2, none⟩ a2).heap[b]? = some (.cells #[a0, a1, a2] t (0, 0)) := by
 simp [World.setCell, Array.getElem?_modify, h]
theorem below_set3 {B : Nat} {a w : World} (h : Below B a w) {b : Nat} (hb : B ≤ b) (a0 a1 a2 : Value) : Below B a (((w.setCell ⟨b, 0, none⟩ a0).setCell ⟨b, 1, none⟩ a1).setCell ⟨b, 2, none⟩ a2) :=
 ((h.setCell (p := ⟨b, 0, none⟩) hb a0).setCell (p := ⟨b, 1, none⟩) hb a1).setCell (p := ⟨b, 2, none⟩) hb a2
theorem RowE.set3 {w : World} {A : Option Addr} {es : List Edg} (h : RowE w A es) {b : Nat} (hb : ∀ a, A = some a → a.block ≠ b) (a0 a1 a2 : Value) : RowE (((w.setCell ⟨b, 0, none⟩ a0).setCell ⟨b, 1, none⟩ a1).setCell ⟨b, 2, none⟩ a2) A es := by
 intro h0
 obtain ⟨g, o, rfl, hg, hc⟩ := h h0
 have hne := hb _ rfl
 have hk : ∀ p : Addr, p.block = g → (((w.setCell ⟨b, 0, none⟩ a0).setCell ⟨b, 1, none⟩ a1).setCell ⟨b, 2, none⟩ a2).cell? p = w.cell? p := fun p hp => by
  refine World.cell?_of_block ?_
  rw [Below.heap_setCell _ _ _ _ (by rw [hp]; exact hne), Below.heap_setCell _ _ _ _ (by rw [hp]; exact hne), Below.heap_setCell _ _ _ _ (by rw [hp]; exact hne)]
 exact ⟨g, o, rfl, by simpa [World.setCell] using hg, fun k hkk => ⟨(hk _ rfl).trans (hc k hkk).1, (hk _ rfl).trans (hc k hkk).2.1, (hk _ rfl).trans (hc k hkk).2.2⟩⟩
def GrV (g : Array Value) : Prop := ∃ (a b : Int) (o : Option Addr) (n k : Nat), g = #[.int .i64 a, .int .i64 b, .slice o n k]
set_option maxRecDepth 100000 in
set_option maxHeartbeats 2000000 in
theorem grKeep_any (L S : Int) (es : List Edg) (E : Option Addr) (d : Nat) (xs : List Int) (A : Option Addr) (c : Nat) (w : World) (hE : RowE w E es) (hR : RowI w A xs) (hb : xs.length ≤ 4294967296) :
  Calls Tryz.prog 87 #[.agg #[.int .i64 L, .int .i64 S, .slice E es.length d], .slice A xs.length c] w fun e w' => ∃ (g : Array Value) (r : Int), e = .returned (.tuple #[.agg g, .int .i64 r]) ∧ GrV g ∧ (r = 0 ↔ okG L S es = true ∧ setE S xs = 0) ∧
   (r = 0 → KpG w' L xs es g) ∧ Below w.heap.size w w' := by
 obtain ⟨Z, hZ⟩ : ∃ Z, w.heap.size = Z := ⟨_, rfl⟩
 have hB0 : Below w.heap.size w ((w.alloc (.cells #[.int .i64 L, .int .i64 S, .slice E es.length d] 24)).alloc (.cells #[.int .i64 0, .int .i64 0, .slice none 0 0] 24)) := ((Below.refl _ w).alloc (Nat.le_refl _) _).alloc (by simp) _
 have h0 : ((w.alloc (.cells #[.int .i64 L, .int .i64 S, .slice E es.length d] 24)).alloc (.cells #[.int .i64 0, .int .i64 0, .slice none 0 0] 24)).heap[Z]? = some (.cells #[.int .i64 L, .int .i64 S, .slice E es.length d] 24 (0, 0)) := by
  rw [← hZ, heap_alloc_old _ _ (by simp)]
  exact heap_alloc_new w _
 have h1 : ((w.alloc (.cells #[.int .i64 L, .int .i64 S, .slice E es.length d] 24)).alloc (.cells #[.int .i64 0, .int .i64 0, .slice none 0 0] 24)).heap[Z + 1]? = some (.cells #[.int .i64 0, .int .i64 0, .slice none 0 0] 24 (0, 0)) := by
  rw [← hZ, show w.heap.size + 1 = (w.alloc (.cells #[.int .i64 L, .int .i64 S, .slice E es.length d] 24)).heap.size by simp]
  exact heap_alloc_new _ _
 have HE := hide (fun W (h : Below Z w W) => hE.below (hZ ▸ h))
 have HR := hide (fun W (h : Below Z w W) => hR.below (hZ ▸ h))
 have HC := hide (fun W (h : RowE W E es) => grCheck_any L S es E d W h)
 have HSt := hide (fun W (h : RowI W A xs) => grSet_any L S E es.length d xs A c W h (by omega))
 have HKp := hide (fun W (h : RowE W E es) (h2 : RowI W A xs) (hl : es.length ≤ 4294967296) => grkeep_any L S es E d xs A c W h hl h2 hb)
 have HL := hide (show okG L S es = true → es.length ≤ 4294967296 from fun h => by have := (okG_size h).2.2; omega)
 obtain ⟨ok, hok⟩ : ∃ ok, okG L S es = ok := ⟨_, rfl⟩
 obtain ⟨st, hst⟩ : ∃ st, setE S xs = st := ⟨_, rfl⟩
 rw [hok] at HC HL ⊢
 rw [hst] at HSt ⊢
 rw [hZ] at hB0 ⊢
 clear hE hR hok hst
 go_enter Tryz.func87, Tryz.ntmps87
 go_wp2_with fail
 generalize ((w.alloc (.cells #[.int .i64 L, .int .i64 S, .slice E es.length d] 24)).alloc (.cells #[.int .i64 0, .int .i64 0, .slice none 0 0] 24)) = W1 at hB0 h0 h1 ⊢
 have hz1 : Z + 1 < W1.heap.size := (Array.getElem?_eq_some_iff.1 h1).1
 refine (HC.out W1 (HE.out W1 hB0)).mono ?_
 rintro e W2 ⟨r, rfl, hr, hB2⟩
 have hX2 := hB0.trans (hB2.mono (by omega))
 have g0 := (hB2.block Z (by omega)).trans h0
 have g1 := (hB2.block (Z + 1) hz1).trans h1
 obtain ⟨a0, a1, a2, _⟩ := at3 g0
 obtain ⟨b0, b1, b2, bf⟩ := at3 g1
 by_cases hr0 : r = 0
 ·subst hr0
  obtain rfl : ok = true := by simpa using hr.symm
  have hl := HL.out rfl
  clear HL HC
  go_wp2_with fail
  refine (HSt.out W2 (HR.out W2 hX2)).mono ?_
  rintro e W3 ⟨rfl, hB3⟩
  have hX3 := hX2.trans (hB3.mono (by have := hX2.size; omega))
  have k0 := (hB3.block Z (Array.getElem?_eq_some_iff.1 g0).1).trans g0
  have k1 := (hB3.block (Z + 1) (Array.getElem?_eq_some_iff.1 g1).1).trans g1
  clear a0 a1 a2 b0 b1 b2 bf
  obtain ⟨a0, a1, a2, _⟩ := at3 k0
  obtain ⟨b0, b1, b2, bf⟩ := at3 k1
  by_cases hs0 : st = 0
  ·subst hs0
   clear HSt
   go_wp2_with fail
   refine (HKp.out W3 (HE.out W3 hX3) (HR.out W3 hX3) hl).mono ?_
   rintro e W4 ⟨ps, G, kk, rfl, hKp, hG, hfr, hB4⟩
   have hX4 := hX3.trans (hB4.mono (by have := hX3.size; omega))
   have l1 := (hB4.block (Z + 1) (Array.getElem?_eq_some_iff.1 k1).1).trans k1
   clear a0 a1 a2 b0 b1 b2 bf
   obtain ⟨b0, b1, b2, bf⟩ := at3 l1
   have hz3 : Z + 1 < W3.heap.size := (Array.getElem?_eq_some_iff.1 k1).1
   go_wp2
   refine bodyPost_ret (ret_graphE rfl _ _ (Z + 1) _ rfl (set3 l1 (.int .i64 L) (.int .i64 xs.length) (.slice G ps.length kk)) rfl) rfl ?_
   exact ⟨_, 0, rfl, ⟨_, _, _, _, _, rfl⟩, by simp, fun _ => ⟨ps, G, kk, rfl, hKp, hG.set3 (fun a ha => by have := hfr a ha; omega) _ _ _⟩, below_set3 hX4 (by omega) _ _ _⟩
  ·have hsb : (st != 0) = true := by simpa using hs0
   clear HKp
   go_wp2
   refine bodyPost_ret (ret_graphE rfl _ _ (Z + 1) _ rfl (set3 k1 (.int .i64 0) (.int .i64 0) (.slice none 0 0)) rfl) rfl ?_
   exact ⟨_, st, rfl, ⟨_, _, _, _, _, rfl⟩, by simp [hs0], fun h => absurd h hs0, below_set3 hX3 (by omega) _ _ _⟩
 ·have hrb : (r != 0) = true := by simpa using hr0
  obtain rfl : ok = false := by rw [← hr]; simpa using hr0
  clear HSt HKp HL HC
  go_wp2
  refine bodyPost_ret (ret_graphE rfl _ _ (Z + 1) _ rfl (set3 g1 (.int .i64 0) (.int .i64 0) (.slice none 0 0)) rfl) rfl ?_
  exact ⟨_, 1, rfl, ⟨_, _, _, _, _, rfl⟩, ⟨fun h => by simp at h, fun h => by simp at h⟩, fun h => by simp at h, below_set3 hX2 (by omega) _ _ _⟩
theorem okG_in {L S : Int} {es : List Edg} (h : okG L S es = true) {n : Nat} (hn : S = n) : ∀ e ∈ es, inE n e := fun e he => by
 have h := okG_edge h e he
 unfold okE at h
 simp only [Bool.and_eq_true, decide_eq_true_eq] at h
 unfold inE
 omega
def eigAt (m : Int) (v : Nat → Int) (es : List Edg) (s : Nat) : Bool := decide (m * v s ≤ sumsF v es s)
def vecF (vs : List Int) : Nat → Int := fun k => vs.getD k 0
def eigB (L S m : Int) (es : List Edg) (vs : List Int) : Bool := okG L S es && okW S m vs && !zerV vs && (List.range vs.length).all (eigAt m (vecF vs) es)
theorem okW_parts {S m : Int} {vs : List Int} (h : okW S m vs = true) : 1 ≤ m ∧ m ≤ 256 ∧ (vs.length : Int) = S ∧ ∀ k, k < vs.length → 0 ≤ vs.getD k 0 ∧ vs.getD k 0 ≤ 4096 := by
 unfold okW at h
 simp only [Bool.and_eq_true, decide_eq_true_eq, Bool.not_eq_true', List.any_eq_false, List.mem_range] at h
 refine ⟨h.1.1.1, h.1.1.2, h.1.2, fun k hk => ?_⟩
 have := h.2 k hk
 unfold badW at this
 simp only [Bool.or_eq_true, decide_eq_true_eq, not_or] at this
 omega
theorem eig_all {m : Int} {v : Nat → Int} {es : List Edg} {n : Nat} (h : ∀ k, k < n → eigAt m v es k = true) : (List.range n).all (eigAt m v es) = true := by
 rw [List.all_eq_true]; exact fun k hk => h k (List.mem_range.1 hk)
theorem eig_no {m : Int} {v : Nat → Int} {es : List Edg} {n k : Nat} (hk : k < n) (h : eigAt m v es k = false) : (List.range n).all (eigAt m v es) = false := by
 rw [List.all_eq_false]; exact ⟨k, List.mem_range.2 hk, by rw [h]; decide⟩
set_option maxRecDepth 100000 in
set_option maxHeartbeats 2000000 in
theorem evEigen_any (L S m : Int) (es : List Edg) (A : Option Addr) (c : Nat) (D : Option Addr) (cv : Nat) (vs : List Int) (w : World) (hr : RowE w A es) (hl : vs.length ≤ 4294967296) (hv : RowI w D vs) :
  Calls Tryz.prog 11 #[.agg #[.int .i64 L, .int .i64 S, .slice A es.length c], .slice D vs.length cv, .int .i64 m] w fun e w' => ∃ r : Int, e = .returned (.int .i64 r) ∧ (r == 0) = eigB L S m es vs ∧ Below w.heap.size w w' := by
 have hB0 : Below w.heap.size w (w.alloc (.cells #[.int .i64 L, .int .i64 S, .slice A es.length c] 24)) := (Below.refl _ w).alloc (Nat.le_refl _) _
 have hb0 : (w.alloc (.cells #[.int .i64 L, .int .i64 S, .slice A es.length c] 24)).heap[w.heap.size]? = some (.cells #[.int .i64 L, .int .i64 S, .slice A es.length c] 24 (0, 0)) := heap_alloc_new w _
 have hlt : w.heap.size < (w.alloc (.cells #[.int .i64 L, .int .i64 S, .slice A es.length c] 24)).heap.size := by simp
 have HR := hide (fun W (h : Below w.heap.size w W) => hr.below h)
 have HV := hide (fun W (h : Below w.heap.size w W) => hv.below h)
 have HC := hide (fun W (h : Below w.heap.size w W) => evCheck_row L S m es A c D cv vs W (hr.below h) hl (hv.below h))
 have HZr := hide (fun W (h : Below w.heap.size w W) => evZero_any vs D cv W hl (hv.below h))
 have HS := hide (fun (hG : okG L S es = true) (hW : okW S m vs = true) (h0 : 0 < vs.length) W (h : Below w.heap.size w W) => show Calls Tryz.prog 34 #[.agg #[.int .i64 L, .int .i64 S, .slice A es.length c], .slice D vs.length cv, .func (.func 35) #[] #[]] W (fun e w' => e = .returned (.slice (some ⟨W.heap.size + 1, 0, none⟩) vs.length vs.length) ∧ IB w' (W.heap.size + 1) (rowI vs.length (sumsF (vecF vs) es)) ∧ Below W.heap.size W w') from by
  obtain ⟨_, _, h3, h4⟩ := okW_parts hW
  obtain ⟨b, o, rfl, hb, hc⟩ := (hv.below h) h0
  rw [← h3]
  obtain ⟨_, h64, hel⟩ := okG_size hG
  exact evSumsI_any L vs.length es A c b o cv (vecF vs) W (by omega) hel (okG_in hG h3.symm) (hr.below h) hb (fun k hk => by rw [hc k hk]; simp [vecF, hk]) (fun k hk => by have := h4 k hk; show (vs.getD k 0).natAbs ≤ _; omega))
 have HO := hide (show eigB L S m es vs = (okG L S es && okW S m vs && !zerV vs && (List.range vs.length).all (eigAt m (vecF vs) es)) from rfl)
 have HB := hide hB0
 clear hr hv hB0
 go_enter Tryz.func11, Tryz.ntmps11
 go_wp2_with fail
 generalize w.alloc (.cells #[.int .i64 L, .int .i64 S, .slice A es.length c] 24) = W0 at hb0 HB hlt ⊢
 (with_reducible refine (HC.out W0 HB.out).mono ?_)
 rintro e w1 ⟨r, rfl, hr0, hB1⟩
 have HB1 := hide (HB.out.trans (hB1.mono (Nat.le_of_lt hlt)))
 have hb1 := (hB1.block w.heap.size hlt).trans hb0
 have hlt1 := Nat.lt_of_lt_of_le hlt hB1.size
 clear hb0 hB1 HB HC
 obtain ⟨a0, a1, a2⟩ := at3 hb1
 by_cases hr1 : r = 0
 ·subst hr1
  have hGW : okG L S es = true ∧ okW S m vs = true := by simpa using hr0.symm
  obtain ⟨hG, hW⟩ := hGW
  rw [hG, hW] at HO
  have HSx := hide (HS.out hG hW)
  have HP := hide (okW_parts hW)
  clear HS hr0 hG hW
  cases hz : zerV vs
  ·rw [hz] at HZr HO
   have h0 : 0 < vs.length := by
    rcases Nat.eq_zero_or_pos vs.length with h | h
    ·rw [List.eq_nil_of_length_eq_zero h] at hz
     cases hz
    ·exact h
   have HSy := hide (HSx.out h0)
   clear hz HSx
   go_wp2_with fail
   (with_reducible refine (HZr.out w1 HB1.out).mono ?_)
   rintro e w2 ⟨rfl, hB2⟩
   have HB2 := hide (HB1.out.trans (hB2.mono HB1.out.size))
   have hb2 := (hB2.block w.heap.size hlt1).trans hb1
   clear hB2 HB1 HZr a0 a1 a2 hb1
   obtain ⟨a0, a1, a2, _⟩ := at3 hb2
   go_wp2_with fail
   (with_reducible refine (HSy.out w2 HB2.out).mono ?_)
   rintro e w3 ⟨rfl, hI, hB3⟩
   have HB3 := hide (HB2.out.trans (hB3.mono HB2.out.size))
   have HI := hide hI
   obtain ⟨Q, hQ⟩ : ∃ Q, w2.heap.size + 1 = Q := ⟨_, rfl⟩
   rw [hQ] at HI ⊢
   clear hB3 HSy a0 a1 a2 hb2 HB2 hI hQ
   go_wp2_with fail
   go_loopw [23] (fun iv wr => ∃ k : Nat, k ≤ vs.length ∧ iv = .int .i64 k ∧ Hid (∀ j, j < k → eigAt m (vecF vs) es j = true) ∧ wr = w3) (fun iv _ => vs.length - (intOf iv).toNat)
   case atStart => exact ⟨0, Nat.zero_le _, rfl, hide fun j h => absurd h (by omega), rfl⟩
   case round =>
    obtain ⟨k, hk, rfl, hall, rfl⟩ := hrel
    by_cases hlt : k < vs.length
    ·obtain ⟨b, o, rfl, _, hc⟩ := HV.out wr HB3.out h0
     have c1 := hc k hlt
     have c2 := HI.out.cell (k := k) (by rw [rowI_len]; exact hlt)
     rw [rowI_get _ hlt] at c2
     obtain ⟨hm1, hm2, _, hvb⟩ := HP.out
     have hvk := hvb k hlt
     have hgk : vs.getD k 0 = vs[k] := by simp [hlt]
     rw [hgk] at hvk
     have HE := hide (show eigAt m (vecF vs) es k = decide (m * vs[k] ≤ sumsF (vecF vs) es k) by unfold eigAt vecF; rw [hgk])
     obtain ⟨x, hx⟩ : ∃ x, vs[k] = x := ⟨_, rfl⟩
     obtain ⟨y, hy⟩ : ∃ y, sumsF (vecF vs) es k = y := ⟨_, rfl⟩
     rw [hx] at c1 HE hvk
     rw [hy] at c2 HE
     have hmx : 0 ≤ m * x ∧ m * x ≤ 256 * 4096 := ⟨Int.mul_nonneg (by omega) hvk.1, Int.mul_le_mul hm2 hvk.2 hvk.1 (by decide)⟩
     have hwr : IntKind.i64.wrap (m * x) = m * x := IntWalk.i64_in _ (by omega)
     have hk0 : (0 : Int) ≤ (k : Int) := by omega
     have hk1 : (k : Int) < (vs.length : Int) := by omega
     clear hc hgk hx hy hvb hvk
     by_cases hyx : y < m * x
     ·have d1 : decide (y < m * x) = true := decide_eq_true hyx
      have HF := hide (eig_no hlt (show eigAt m (vecF vs) es k = false by rw [HE.out]; exact decide_eq_false (by omega)))
      go_wp2
      go_ret
      exact ⟨23, rfl, by rw [HO.out, HF.out]; rfl, HB3.out⟩
     ·have d1 : decide (y < m * x) = false := decide_eq_false hyx
      have HT := hide (show eigAt m (vecF vs) es k = true by rw [HE.out]; exact decide_eq_true (by omega))
      go_wp2
      go_roundw
      case rel =>
       refine ⟨k + 1, hlt, by go_num, hide fun j hj => ?_, trivial⟩
       by_cases e : j < k
       ·exact hall.out j e
       ·obtain rfl : j = k := by omega
        exact HT.out
      case measure => simp [intOf]; omega
    ·obtain rfl : k = vs.length := by omega
     have HF := hide (eig_all hall.out)
     go_wp2
     go_ret
     exact ⟨0, rfl, by rw [HO.out, HF.out]; rfl, HB3.out⟩
  ·rw [hz] at HZr HO
   clear hz HSx
   go_wp2_with fail
   (with_reducible refine (HZr.out w1 HB1.out).mono ?_)
   rintro e w2 ⟨rfl, hB2⟩
   have HB2 := hide (HB1.out.trans (hB2.mono HB1.out.size))
   clear hB2 HZr
   go_wp2
   go_ret
   exact ⟨5, rfl, by rw [HO.out]; rfl, HB2.out⟩
 ·have hrn : (r != 0) = true := by simpa using hr1
  have HF := hide (show eigB L S m es vs = false by
   rw [HO.out, ← hr0]
   simp [hr1])
  clear hr0
  go_wp2
  go_ret
  exact ⟨r, rfl, by rw [HF.out]; simpa using hr1, HB1.out⟩
def hasI (x : Int) (xs : List Int) : Bool := decide (x ∈ xs)
theorem hasI_iff {x : Int} {xs : List Int} : hasI x xs = true ↔ x ∈ xs := by unfold hasI; exact decide_eq_true_iff
theorem hasI_no {x : Int} {xs : List Int} (h : ¬ x ∈ xs) : hasI x xs = false := by rw [← Bool.not_eq_true, hasI_iff]; exact h
theorem RowI.drewN {w : World} {A : Option Addr} {zs : List Int} (h : RowI w A zs) (q : Nat) : RowI (w.drewN q) A zs := h
set_option maxRecDepth 100000 in
set_option maxHeartbeats 1000000 in
theorem slIndexI_any (xs : List Int) (x : Int) (A : Option Addr) (c : Nat) (w : World) (hR : RowI w A xs) (hb : xs.length ≤ 4294967296) :
  Calls Tryz.prog 219 #[.slice A xs.length c, .int .i64 x] w fun e w' => (∃ z : Int, e = .returned (.int .i64 z) ∧ decide (0 ≤ z) = hasI x xs) ∧ w' = w := by
 have HR := hide hR
 clear hR
 go_enter Tryz.func219, Tryz.ntmps219
 go_wp2
 go_loop [8] (fun i => ∃ k : Nat, k ≤ xs.length ∧ i = .int .i64 k ∧ Hid (∀ j (hj : j < xs.length), j < k → xs[j] ≠ x)) (fun i => xs.length - (intOf i).toNat)
 case atStart => exact ⟨0, Nat.zero_le _, rfl, hide fun j _ h => absurd h (by omega)⟩
 case round =>
  obtain ⟨k, hk, rfl, hs⟩ := hrel
  by_cases hlt : k < xs.length
  ·obtain ⟨b1, o1, rfl, _, hcell⟩ := HR.out (by omega)
   have c1 := hcell k hlt
   obtain ⟨a, ha⟩ : ∃ a, a = xs[k] := ⟨_, rfl⟩
   rw [← ha] at c1
   have HA := hide ha
   clear ha hcell
   have hk0 : (0 : Int) ≤ (k : Int) := by omega
   have hk1 : (k : Int) < (xs.length : Int) := by omega
   by_cases he : x = a
   ·have HM := hide (show hasI x xs = true by rw [hasI_iff, he, HA.out]; exact List.getElem_mem _)
    have hself : (x == a) = true := by simp [he]
    clear he
    go_wp2
    go_ret
    exact ⟨⟨k, rfl, by rw [HM.out, decide_eq_true (by omega)]⟩, rfl⟩
   ·have hne : (x == a) = false := by simp [he]
    have HE := hide he
    clear he
    go_wp2
    refine ⟨⟨k + 1, by omega, by go_num, hide fun j hj hjk => ?_⟩, by simp [intOf]; omega⟩
    by_cases e : j < k
    ·exact hs.out j hj e
    ·obtain rfl : j = k := by omega
     rw [← HA.out]; exact fun e2 => HE.out e2.symm
  ·obtain rfl : k = xs.length := by omega
   go_wp2
   go_ret
   refine ⟨⟨-1, rfl, ?_⟩, rfl⟩
   have : ¬ x ∈ xs := fun h => by
    obtain ⟨j, hj, e⟩ := List.getElem_of_mem h
    exact hs.out j hj hj e
   rw [hasI_no this]; rfl
set_option maxRecDepth 100000 in
set_option maxHeartbeats 400000 in
theorem slContainsI_any (xs : List Int) (x : Int) (A : Option Addr) (c : Nat) (w : World) (hR : RowI w A xs) (hb : xs.length ≤ 4294967296) :
  Calls Tryz.prog 161 #[.slice A xs.length c, .int .i64 x] w fun e w' => e = .returned (.bool (hasI x xs)) ∧ w' = w := by
 have HI := hide (slIndexI_any xs x A c w hR hb)
 clear hR
 go_enter Tryz.func161, Tryz.ntmps161
 go_wp2_with fail
 refine HI.out.mono ?_
 rintro e w1 ⟨⟨z, rfl, hz⟩, rfl⟩
 have HZ := hide hz
 clear hz
 go_wp2
 go_ret
 exact ⟨by rw [← HZ.out]; rfl, rfl⟩
def AnyB (e : Ending) : Prop := ∃ b : Bool, e = .returned (.bool b)
def minU (xs : List Int) : Nat → Int
 | 0 => xs.getD 0 0
 | k + 1 => min (minU xs k) (xs.getD (k + 1) 0)
set_option maxRecDepth 100000 in
set_option maxHeartbeats 1000000 in
theorem slMinI_any (xs : List Int) (A : Option Addr) (c : Nat) (w : World) (hR : RowI w A xs) (h0 : 0 < xs.length) (hb : xs.length ≤ 4294967296) :
  Calls Tryz.prog 223 #[.slice A xs.length c] w fun e w' => e = .returned (.int .i64 (minU xs (xs.length - 1))) ∧ w' = w := by
 obtain ⟨b, o, rfl, _, hc⟩ := hR h0
 have c0 : w.cell? ⟨b, o, none⟩ = some (.int .i64 xs[0]) := hc 0 h0
 have hl1 : decide ((xs.length : Int) < 1) = false := decide_eq_false (by omega)
 have HC := hide hc
 have HM0 := hide (show minU xs 0 = xs[0] by simp [minU, h0])
 obtain ⟨y, hy⟩ : ∃ y, xs[0] = y := ⟨_, rfl⟩
 rw [hy] at c0 HM0
 clear hc hy hR
 go_enter Tryz.func223, Tryz.ntmps223
 go_wp2
 go_loopw [3, 4] (fun mv iv wr => ∃ (k : Nat) (z : Int), 1 ≤ k ∧ k ≤ xs.length ∧ mv = .int .i64 z ∧ iv = .int .i64 k ∧ Hid (minU xs (k - 1) = z) ∧ wr = w) (fun _ iv _ => xs.length - (intOf iv).toNat)
 case atStart => exact ⟨1, y, Nat.le_refl _, h0, rfl, rfl, HM0, rfl⟩
 case round =>
  obtain ⟨k, z, hk1, hk, rfl, rfl, HZ, rfl⟩ := hrel
  by_cases hlt : k < xs.length
  ·have ck := HC.out k hlt
   have HM := hide (show minU xs k = min z xs[k] by
    obtain ⟨j, rfl⟩ : ∃ j, k = j + 1 := ⟨k - 1, by omega⟩
    have := HZ.out
    rw [Nat.add_sub_cancel] at this
    show min (minU xs j) _ = _
    rw [this]
    simp [hlt])
   obtain ⟨x, hx⟩ : ∃ x, xs[k] = x := ⟨_, rfl⟩
   rw [hx] at ck HM
   have hk0 : (0 : Int) ≤ (k : Int) := by omega
   have hk2 : (k : Int) < (xs.length : Int) := by omega
   clear hx c0
   go_wp2
   go_roundw
   case rel => exact ⟨k + 1, _, by omega, hlt, rfl, by go_num, HM, trivial⟩
   case measure => simp [intOf]; omega
  ·obtain rfl : k = xs.length := by omega
   go_wp2
   go_ret
   exact ⟨by rw [HZ.out]; rfl, rfl⟩
theorem quiet_mo1 {P : Program} {f : FuncId} {args : Array Value} {w : World} {q n : Nat} {v : Value}
  (h : Calls P f args (w.drewN (q + n)) fun e w' => e = .returned v ∧ w' = w.drewN (q + n)) : Calls P f args (w.drewN (q + n)) fun e w'' => e = .returned v ∧ ∃ m, w'' = w.drewN (q + m) :=
 h.mono fun _ _ ⟨he, hm⟩ => ⟨he, n, hm⟩
set_option maxRecDepth 100000 in
set_option maxHeartbeats 1000000 in
theorem slIsSortedI_any (xs : List Int) (A : Option Addr) (c : Nat) (w : World) (hR : RowI w A xs) (hb : xs.length ≤ 4294967296) :
  Calls Tryz.prog 270 #[.slice A xs.length c] w fun e w' => AnyB e ∧ ∃ q, w' = w.drewN q := by
 have HR := hide hR
 have HL := hide (fun a y W => cmpLessI_any a y W)
 clear hR
 go_enter Tryz.func270, Tryz.ntmps270
 go_wp2
 go_loopw [3] (fun iv wr => ∃ (i : Int) (q : Nat), -1 ≤ i ∧ i < xs.length ∧ iv = .int .i64 i ∧ wr = w.drewN q) (fun iv _ => (intOf iv).toNat)
 case atStart => exact ⟨_, 0, by omega, by omega, rfl, rfl⟩
 case round =>
  obtain ⟨i, q, hi1, hi2, rfl, rfl⟩ := hrel
  by_cases hlt : 0 < i
  ·obtain ⟨b, o, rfl, _, hc⟩ := HR.out (by omega)
   have c1 := hc i.toNat (by omega)
   have c2 := hc (i.toNat - 1) (by omega)
   obtain ⟨j, rfl⟩ : ∃ j : Nat, i = ((j + 1 : Nat) : Int) := ⟨i.toNat - 1, by omega⟩
   simp only [Int.toNat_natCast, Nat.add_sub_cancel] at c1 c2
   obtain ⟨x, hx⟩ : ∃ x, xs[j + 1]'(by omega) = x := ⟨_, rfl⟩
   obtain ⟨y, hy⟩ : ∃ y, xs[j]'(by omega) = y := ⟨_, rfl⟩
   rw [hx] at c1
   rw [hy] at c2
   have e1 : ((j + 1 : Nat) : Int) - 1 = (j : Int) := by omega
   have hj1 : ((j + 1 : Nat) : Int) < (xs.length : Int) := by omega
   have hj2 : (j : Int) < (xs.length : Int) := by omega
   have HL1 := hide (fun W => HL.out x y W)
   obtain ⟨d, hd⟩ : ∃ d, decide (x < y) = d := ⟨_, rfl⟩
   rw [hd] at HL1
   clear hx hy hc hd
   go_wp2_with fail
   go_quiet ((go_at_call 245; exact quiet_mo1 (HL1.out _)))
   cases d
   ·go_wp2
    go_roundw
    case rel => exact ⟨(j : Int), q + nq, by omega, by omega, by go_num, by simp⟩
    case measure => simp [intOf]
   ·go_wp2
    go_ret
    exact ⟨⟨false, rfl⟩, q + nq, by simp⟩
  ·have d1 : decide (0 < i) = false := decide_eq_false hlt
   go_wp2
   go_ret
   exact ⟨⟨true, rfl⟩, q, rfl⟩
def baseB (L S m : Int) (es : List Edg) (vs : List Int) : Bool := eigB L S m es vs && !hasI 0 vs
set_option maxRecDepth 100000 in
set_option maxHeartbeats 2000000 in
theorem spBase_any (L S m : Int) (es : List Edg) (A : Option Addr) (c : Nat) (D : Option Addr) (cv : Nat) (vs : List Int) (w : World) (hr : RowE w A es) (hl : vs.length ≤ 4294967296) (hv : RowI w D vs) :
  Calls Tryz.prog 163 #[.agg #[.int .i64 L, .int .i64 S, .slice A es.length c], .slice D vs.length cv, .int .i64 m] w fun e w' => ∃ r : Int, e = .returned (.int .i64 r) ∧ (r == 0) = baseB L S m es vs ∧ Below w.heap.size w w' := by
 have hB0 : Below w.heap.size w (w.alloc (.cells #[.int .i64 L, .int .i64 S, .slice A es.length c] 24)) := (Below.refl _ w).alloc (Nat.le_refl _) _
 have hb0 : (w.alloc (.cells #[.int .i64 L, .int .i64 S, .slice A es.length c] 24)).heap[w.heap.size]? = some (.cells #[.int .i64 L, .int .i64 S, .slice A es.length c] 24 (0, 0)) := heap_alloc_new w _
 have HE := hide (fun W (h : Below w.heap.size w W) => evEigen_any L S m es A c D cv vs W (hr.below h) hl (hv.below h))
 have HC := hide (fun W (h : Below w.heap.size w W) => slContainsI_any vs 0 D cv W (hv.below h) hl)
 have HO := hide (show baseB L S m es vs = (eigB L S m es vs && !hasI 0 vs) from rfl)
 have HB := hide hB0
 clear hr hv hB0
 go_enter Tryz.func163, Tryz.ntmps163
 go_wp2_with fail
 generalize w.alloc (.cells #[.int .i64 L, .int .i64 S, .slice A es.length c] 24) = W0 at hb0 HB ⊢
 obtain ⟨a0, a1, a2⟩ := at3 hb0
 (with_reducible refine (HE.out W0 HB.out).mono ?_)
 rintro e w1 ⟨r, rfl, hr0, hB1⟩
 have HB1 := hide (HB.out.trans (hB1.mono HB.out.size))
 rw [← hr0] at HO
 clear hr0 hB1 hb0 a0 a1 a2
 by_cases h0 : r = 0
 ·subst h0
  go_wp2_with fail
  (with_reducible refine (HC.out w1 HB1.out).mono ?_)
  rintro e w2 ⟨rfl, rfl⟩
  cases hz : hasI 0 vs
  ·rw [hz] at HO
   go_wp2
   go_ret
   exact ⟨0, rfl, HO.out.symm, HB1.out⟩
  ·rw [hz] at HO
   go_wp2
   go_ret
   exact ⟨2, rfl, HO.out.symm, HB1.out⟩
 ·have h1 : (r != 0) = true := bne_iff_ne.2 h0
  have h2 : (r == 0) = false := by rw [beq_eq_false_iff_ne]; exact h0
  have HO2 := hide (show (r == 0) = baseB L S m es vs by rw [HO.out, h2]; rfl)
  clear HO
  go_wp2
  go_ret
  exact ⟨r, rfl, HO2.out, HB1.out⟩
set_option maxHeartbeats 1000000 in
theorem spLightf_any (n : Int) (w : World) : Calls Tryz.prog 162 #[.int .i64 n] w fun e w' => e = .returned (.bool (n != 1)) ∧ w' = w := by
 go_enter Tryz.func162, Tryz.ntmps162
 go_wp2
 go_ret
 exact ⟨rfl, rfl⟩
set_option maxHeartbeats 1000000 in
theorem spLight_any (vs : List Int) (D : Option Addr) (cv : Nat) (w : World) (hl : vs.length ≤ 4294967296) (hv : RowI w D vs) :
  Calls Tryz.prog 109 #[.slice D vs.length cv] w fun e w' => (∃ b : Bool, e = .returned (.bool b)) ∧ Below w.heap.size w w' := by
 have HC : Hid (Calls Tryz.prog 84 #[.slice D vs.length cv, .func (.func 162) #[] #[]] w fun e w' => e = .returned (.bool ((List.range vs.length).any fun i => vs.getD i 0 != 1)) ∧ Below w.heap.size w w') := by
  by_cases h0 : 0 < vs.length
  ·obtain ⟨b, o, rfl, hb, hc⟩ := hv h0
   exact hide (cfZ_any 162 (fun i => .int .i64 (vs.getD i 0)) (fun i => vs.getD i 0 != 1) vs.length cv b o w hl hb (fun i hi => by rw [hc i hi]; simp [hi]) (enters_of Tryz.func162 (by kernel_rfl) rfl)
    (hide fun i W' hi hW' => (spLightf_any (vs.getD i 0) W').mono (by rintro e w' ⟨rfl, rfl⟩; exact ⟨rfl, Below.refl _ _⟩)))
  ·have : vs = [] := List.eq_nil_of_length_eq_zero (by omega)
   subst this
   exact hide ((cfI_nil 162 D cv w).mono (by rintro e w' ⟨rfl, rfl⟩; exact ⟨rfl, Below.refl _ _⟩))
 obtain ⟨z, hz⟩ : ∃ z, ((List.range vs.length).any fun i => vs.getD i 0 != 1) = z := ⟨_, rfl⟩
 rw [hz] at HC
 clear hz hv
 go_enter Tryz.func109, Tryz.ntmps109
 go_wp2_with fail
 refine HC.out.mono ?_
 rintro e w' ⟨rfl, hB⟩
 go_wp2
 go_ret
 exact ⟨⟨!z, rfl⟩, hB⟩
section
theorem infoIntA : (Tryz.prog.info? 3).map (fun i => (i.zero, i.size, i.bytes)) = some (some (.int .i64 0), 1, 8) := by kernel_rfl
def Ints (w : World) (B : Nat) (v : Value) (xs : List Int) : Prop := w.ownsRow B 3 1 v xs.length (xs.map (Value.int .i64))
section
variable {w w' : World} {B : Nat} {v : Value} {xs : List Int}
theorem Ints.nil_ (w : World) (B : Nat) : Ints w B (.slice none 0 0) [] := World.ownsRow_nil _ _ _ _
theorem Ints.alloc (h : Ints w B v xs) (o : Obj) : Ints (w.alloc o) B v xs := World.ownsRow.alloc h o
theorem Ints.drew (h : Ints w B v xs) : Ints w.drew B v xs := h
theorem Ints.drewN (h : Ints w B v xs) (n : Nat) : Ints (w.drewN n) B v xs := h
theorem Ints.lit (w : World) (xs : List Int) (hB : B ≤ w.heap.size) (hm : xs.length ≤ 4294967296) (cs : Array Value) (hc : cs = (xs.map (Value.int .i64)).toArray) :
  Ints (w.alloc (.cells cs 3)) B (.slice (some ⟨w.heap.size, 0, none⟩) xs.length xs.length) xs := by
 subst hc
 have := World.ownsRow_lit (base := B) (e := 3) (size := 1) w (xs.map (Value.int .i64)).toArray xs.length hB (by unfold maxLen; omega) (by simp)
 simpa [Ints] using this
theorem Ints.empty_ {w : World} {B g : Nat} (hg : w.heap.size = g) (hB : B ≤ g) : Ints (w.alloc (.cells #[] 3)) B (.slice (some ⟨g, 0, none⟩) 0 0) [] := by
 subst hg
 exact World.ownsRow_made (base := B) (e := 3) (size := 1) w #[] 0 hB (by decide) rfl
theorem Ints.one_ {w : World} {B g : Nat} (hg : w.heap.size = g) (hB : B ≤ g) (s : Int) : Ints (w.alloc (.cells #[.int .i64 s] 3)) B (.slice (some ⟨g, 0, none⟩) 1 1) [s] := by
 subst hg
 exact Ints.lit w [s] hB (by simp) _ rfl
theorem Ints.form (h : Ints w B v xs) (hne : 0 < xs.length) : ∃ g cap, v = .slice (some ⟨g, 0, none⟩) xs.length cap ∧ B ≤ g ∧ g < w.heap.size := by
 rcases h.2 with ⟨_, hn⟩ | ⟨g, cap, cur, hv, hb, hh, _⟩
 ·omega
 ·refine ⟨g, cap, hv, hb, ?_⟩
  rcases Nat.lt_or_ge g w.heap.size with hlt | hge
  ·exact hlt
  ·rw [Array.getElem?_eq_none hge] at hh; cases hh
theorem Ints.shape (h : Ints w B v xs) : ∃ ad cap, v = .slice ad xs.length cap := by
 rcases h.2 with ⟨hv, hn⟩ | ⟨g, cap, cur, hv, _⟩
 ·exact ⟨none, 0, by rw [hv, hn]⟩
 ·exact ⟨_, cap, hv⟩
theorem Ints.cell {g cap n : Nat} (h : Ints w B (.slice (some ⟨g, 0, none⟩) n cap) xs) {k : Nat} (hk : k < xs.length) : w.cell? ⟨g, k, none⟩ = some (.int .i64 xs[k]) := by
 have hn : n = xs.length := by
  rcases h.2 with ⟨h', _⟩ | ⟨g', cap', cur, h', _⟩
  ·simp at h'
  ·simp only [Value.slice.injEq] at h'; exact h'.2.1
 subst hn
 have := World.ownsRow.cellAt h k (by omega)
 rw [this]; simp [hk]
end
theorem run_app_ints (w : World) (ty : TypeId) (B : Nat) (v : Value) (xs : List Int) (hown : Ints w B v xs) (g m : Nat) (news : List Int) (hl : news.length = m)
  (hblk : w.heap[g]? = some (.cells (news.map (Value.int .i64)).toArray 3 (0, 0))) (hb : xs.length + m ≤ 4294967296) (hbase : B ≤ w.heap.size) :
  ∃ v' w', (Builtin.append_ #[31, 31] ty #[v, .slice (some ⟨g, 0, none⟩) m m]).run Tryz.prog w = .ok v' w' ∧ Ints w' B v' (xs ++ news) ∧ w.grownBy w' v.ownBlock := by
 obtain ⟨i0, hi, hz0, hz1, hz2⟩ := info_parts infoIntA
 obtain ⟨v', w', h1, h2, h3, _⟩ := run_append_own (P := Tryz.prog) w B 31 ty 3 i0 _ 1 8 Tryz.underlying31 hi hz0 hz1 hz2 rfl (by decide) v xs.length (xs.map (Value.int .i64)) hown ⟨g, 0, none⟩ m m (news.map (Value.int .i64)) (by simp [hl]) (by
   intro j u hj
   have : (⟨g, 0, none⟩ : Addr).add j = ⟨g, j, none⟩ := by unfold Addr.add; split <;> simp_all
   rw [this, cell_of_row w g j _ 3 (0, 0) hblk]
   simpa using hj) (by
   intro u hu
   obtain ⟨b, _, rfl⟩ := List.mem_map.1 hu
   rfl) (by unfold maxLen; omega) (by omega) hbase
 refine ⟨v', w', h1, ?_, h3⟩
 unfold Ints
 rw [List.length_append, hl, List.map_append]
 exact h2
theorem wp_app_ints {w : World} {o : Oper} {a : Act} {K : Act → World → Prop} {Q : Exit → Act → World → Prop} (s x : Operand)
  (ho : o.op = .call { callee := .builtin .append, args := #[s, x], argTypes := #[31, 31] })
  (B : Nat) (v : Value) (xs : List Int) (hs : a.eval s = v) (hown : Ints w B v xs)
  (g m : Nat) (news : List Int) (hx : a.eval x = .slice (some ⟨g, 0, none⟩) m m) (hl : news.length = m) (hblk : w.heap[g]? = some (.cells (news.map (Value.int .i64)).toArray 3 (0, 0)))
  (hb : xs.length + m ≤ 4294967296) (hbase : B ≤ w.heap.size)
  (h : ∀ v' w', Ints w' B v' (xs ++ news) → w.grownBy w' v.ownBlock → K (a.put o.dst v') w') : o.wp Tryz.prog a w K Q := by
 obtain ⟨v', w', hr, h2, h3⟩ := run_app_ints w o.type B v xs hown g m news hl hblk hb hbase
 unfold Oper.wp execOp
 simp only [ho, resolve, invoke, builtin, Sem.run_bind, Sem.run_pure, Result.andThen_ok, List.map_toArray, List.map_cons, List.map_nil, hs, hx, hr]
 exact h v' w' h2 h3
theorem wpList_app_ints {w : World} {ops : Array Oper} {rest : List Oper} {o : Oper} {a : Act} {Q : Exit → Act → World → Prop} (hgd : o.guard = none) (s x : Operand)
  (ho : o.op = .call { callee := .builtin .append, args := #[s, x], argTypes := #[31, 31] })
  (B : Nat) (v : Value) (xs : List Int) (hs : a.eval s = v) (hown : Ints w B v xs)
  (g m : Nat) (news : List Int) (hx : a.eval x = .slice (some ⟨g, 0, none⟩) m m) (hl : news.length = m) (hblk : w.heap[g]? = some (.cells (news.map (Value.int .i64)).toArray 3 (0, 0)))
  (hb : xs.length + m ≤ 4294967296) (hbase : B ≤ w.heap.size)
  (h : ∀ v' w', Ints w' B v' (xs ++ news) → w.grownBy w' v.ownBlock → wpList Tryz.prog ops Q rest (a.put o.dst v') w') : wpList Tryz.prog ops Q (o :: rest) a w :=
 wpList_plain hgd fun _ hK => wp_app_ints s x ho B v xs hs hown g m news hx hl hblk hb hbase fun v' w' h2 h3 => hK _ _ (h v' w' h2 h3)
theorem step_app_ints {w : World} {ops : Array Oper} {o : Oper} {a : Act} {K : Act → World → Prop} {Q : Exit → Act → World → Prop} {E : Prop} (hgd : o.guard = none) (s x : Operand)
  (ho : o.op = .call { callee := .builtin .append, args := #[s, x], argTypes := #[31, 31] })
  (B : Nat) (v : Value) (xs : List Int) (hs : a.eval s = v) (hown : Ints w B v xs)
  (g m : Nat) (news : List Int) (hx : a.eval x = .slice (some ⟨g, 0, none⟩) m m) (hl : news.length = m) (hblk : w.heap[g]? = some (.cells (news.map (Value.int .i64)).toArray 3 (0, 0)))
  (hb : xs.length + m ≤ 4294967296) (hbase : B ≤ w.heap.size)
  (h : ∀ v' w', Ints w' B v' (xs ++ news) → w.grownBy w' v.ownBlock → K (a.put o.dst v') w') :
  if Region.wanted o (yielded ops a.tmps) = true then Oper.wp Tryz.prog o a w K Q else E := by
 have hw : Region.wanted o (yielded ops a.tmps) = true := by simp [Region.wanted, hgd]
 rw [if_pos hw]
 exact wp_app_ints s x ho B v xs hs hown g m news hx hl hblk hb hbase h
theorem below_appi {W w w' : World} {v : Value} {xs : List Int} (hB : Below W.heap.size W w) (hs : Ints w W.heap.size v xs) (hg : w.grownBy w' v.ownBlock) : Below W.heap.size W w' :=
 hB.grown hg hB.size (fun _ hk => (World.ownsRow.lt hs _ hk).1)
end
end Go.Proofs.YtbnpjoiojhnimaaGreatDoor
namespace Go.Proofs.YtbnpjoiojhnimaaGreatDoor
open Go.RowKit Go.Shelf
section
attribute [local go_sem] Oper.semAt_some
def encL (x : Nat × Edg) : Array Value := #[.int .i64 (x.1 : Nat), .agg #[.int .i64 x.2.f, .int .i64 x.2.l, .int .i64 x.2.t]]
def lvAt (es : List Edg) (s : Int) (i : Nat) : List (Nat × Edg) := match es[i]? with
 | some e => if e.f = s then [(i, e)] else []
 | none => []
def lvP (es : List Edg) (s : Int) (k : Nat) : List (Nat × Edg) := (List.range k).flatMap (lvAt es s)
theorem lvP_succ (es : List Edg) (s : Int) (k : Nat) : lvP es s (k + 1) = lvP es s k ++ lvAt es s k := by
 unfold lvP
 rw [List.range_succ, List.flatMap_append]
 simp
def lvs (es : List Edg) (s : Int) : List (Nat × Edg) := lvP es s es.length
theorem lvP_pre (es : List Edg) (s : Int) {k n : Nat} (h : k ≤ n) : lvP es s k <+: lvP es s n := by
 induction n with
 | zero => (obtain rfl : k = 0 := by omega); exact List.prefix_refl _
 | succ n ih =>
  rcases Nat.lt_or_ge k (n + 1) with hl | hg
  ·refine (ih (by omega)).trans ?_
   rw [lvP_succ]
   exact List.prefix_append _ _
  ·obtain rfl : k = n + 1 := by omega
   exact List.prefix_refl _
theorem mem_lvP {es : List Edg} {s : Int} {x : Nat × Edg} : ∀ {k : Nat}, x ∈ lvP es s k → x.1 < k ∧ es[x.1]? = some x.2 ∧ x.2.f = s := by
 intro k h
 unfold lvP at h
 obtain ⟨i, hi, hx⟩ := List.mem_flatMap.1 h
 unfold lvAt at hx
 split at hx
 ·rename_i e he
  split at hx
  ·rename_i hf
   obtain rfl : x = (i, e) := by simpa using hx
   exact ⟨List.mem_range.1 hi, he, hf⟩
  ·simp at hx
 ·simp at hx
set_option maxHeartbeats 1000000 in
theorem leaving_in (L S s : Int) (A : Option Addr) (n c : Nat) (w : World) :
  Calls Tryz.prog 213 #[.agg #[.int .i64 L, .int .i64 S, .slice A n c], .int .i64 s] w fun e w' => e = .returned (.func (.func 264) #[] #[.pointer (some ⟨w.heap.size, 0, none⟩), .pointer (some ⟨w.heap.size + 1, 0, none⟩)]) ∧
   w' = (w.alloc (.cells #[.int .i64 L, .int .i64 S, .slice A n c] 24)).alloc (.cells #[.int .i64 s] 3) := by
 go_enter Tryz.func213, Tryz.ntmps213
 go_wp2
 go_ret
 exact ⟨rfl, rfl⟩
set_option maxRecDepth 100000 in
set_option maxHeartbeats 2000000 in
theorem leavingf_in (n : Nat) (hn : 1 ≤ n) (l c0 c1 c B : Nat) (s : Int) (es : List Edg) (A : Option Addr) (hl : es.length ≤ 4294967296) (Kp : World → World → Prop) (hKr : ∀ W, Kp W W) (hKa : ∀ W (cs : Array Value), Kp W (W.alloc (.cells cs 72))) (hKt : ∀ {X Y Z : World}, Kp X Y → Kp Y Z → Kp X Z) (J Jx : List (Nat × Edg) → World → Prop) (hJ : AbidesFrom B J)
  (hY : ∀ pre x W, J pre W → pre ++ [x] <+: lvs es s → YieldAt Fence.wide (n - 1) Tryz.prog l (encL x) W fun e W' =>
   (e = .returned (.bool true) ∧ J (pre ++ [x]) W' ∧ Kp W W') ∨ (e = .returned (.bool false) ∧ Jx (pre ++ [x]) W'))
  (W : World) (hR : ∀ W', Kp W W' → RowE W' A es ∧ W'.cell? ⟨c0, 2, none⟩ = some (.slice A es.length c) ∧ W'.cell? ⟨c1, 0, none⟩ = some (.int .i64 s)) (h0 : J [] W) :
  CallsIn Fence.wide n Tryz.prog 264 #[.func (.yield l) #[] #[], .pointer (some ⟨c0, 0, none⟩), .pointer (some ⟨c1, 0, none⟩)] W fun e W' => (∃ v, e = .returned v) ∧
   ((∃ ys, ys = lvs es s ∧ J ys W') ∨ (∃ pre, pre <+: lvs es s ∧ Jx pre W')) := by
 have HR := hide hR
 have HY := hide hY
 have HKa := hide hKa
 have HJa := hide (fun p X o (h : J p X) => hJ p X (X.alloc o) none h (World.grownBy_alloc _ _ none) (fun r e => by cases e))
 obtain ⟨_, e0, _⟩ := hR W (hKr W)
 clear hR hY hKa
 refine callsIn_of_wp Tryz.func264 rfl trivial ?_ rfl
 simp only [Tryz.ntmps264, List.size_toArray, List.length_cons, List.length_nil, Nat.reduceAdd, Nat.reduceSub, Array.replicate_succ, Array.replicate_zero, List.push_toArray, List.append_toArray, List.nil_append, List.cons_append]
 gi_wp2
 gi_loopw [9] (fun iv wr => ∃ i : Nat, i ≤ es.length ∧ iv = .int .i64 i ∧ J (lvP es s i) wr ∧ Kp W wr) (fun iv _ => es.length - (intOf iv).toNat)
 case atStart => exact ⟨0, Nat.zero_le _, rfl, h0, hKr _⟩
 case round =>
  obtain ⟨i, hi, rfl, hJs, hnx⟩ := hrel
  clear h0 e0
  by_cases hlt : i < es.length
  ·have hi0 : (0 : Int) ≤ (i : Int) := by omega
   have hi1 : (i : Int) < (es.length : Int) := by omega
   obtain ⟨hRo, _, e1⟩ := HR.out wr hnx
   obtain ⟨b, o, rfl, hbl, hcell⟩ := hRo (by omega)
   obtain ⟨a0, a1, a2⟩ := hcell i hlt
   have HIn := hide (lvP_succ es s i)
   have hat : lvAt es s i = if es[i].f = s then [(i, es[i])] else [] := by unfold lvAt; rw [List.getElem?_eq_getElem hlt]
   obtain ⟨x, hx⟩ : ∃ x, es[i] = x := ⟨_, rfl⟩
   rw [hx] at a0 a1 a2 hat
   rw [hat] at HIn
   have HPre := hide (lvP_pre es s (show i + 1 ≤ es.length by omega))
   have hw := heap_alloc_new wr (.cells #[.int .i64 x.f, .int .i64 x.l, .int .i64 x.t] 72)
   have x0 := (cell_of_row _ _ 0 _ _ _ hw).trans rfl
   have x1 := (cell_of_row _ _ 1 _ _ _ hw).trans rfl
   have x2 := (cell_of_row _ _ 2 _ _ _ hw).trans rfl
   simp only [List.getElem?_toArray, List.getElem?_cons_zero, List.getElem?_cons_succ] at x0 x1 x2
   have e2 := (World.cell?_alloc_lt wr (.cells #[.int .i64 x.f, .int .i64 x.l, .int .i64 x.t] 72) ⟨c1, 0, none⟩ (World.block_lt_of_cell? _ _ e1)).trans e1
   have HJ2 := hide (HJa.out _ wr (.cells #[.int .i64 x.f, .int .i64 x.l, .int .i64 x.t] 72) hJs)
   have HN2 := hide (hKt hnx (HKa.out wr #[.int .i64 x.f, .int .i64 x.l, .int .i64 x.t]))
   clear hx hat hRo hcell hJs hnx hw e1
   by_cases hf : x.f = s
   ·have hb : (x.f == s) = true := by simpa using hf
    rw [if_pos hf] at HIn
    have hY2 := HY.out (lvP es s i) (i, x) _ HJ2.out (by have h := HPre.out; rw [HIn.out] at h; exact h)
    rw [← HIn.out] at hY2
    simp only [encL] at hY2
    obtain ⟨fn, tmps, assign, body, hy, hR⟩ := hY2
    clear HIn hf HJ2
    gi_wp2
    refine hR.mono ?_
    rintro e W4 (⟨rfl, hJ3, hk3⟩ | ⟨rfl, hJx3⟩)
    ·have hk4 := hide (hKt HN2.out hk3)
     clear hk3
     gi_wp2
     go_roundw
     case rel => exact ⟨i + 1, hlt, by go_num, hJ3, hk4.out⟩
     case measure => simp [intOf]; omega
    ·gi_wp2
     refine bodyPost_ret (results_none rfl _ _ _) rfl ?_
     exact ⟨⟨_, rfl⟩, .inr ⟨_, HPre.out, hJx3⟩⟩
   ·have hb : (x.f == s) = false := by simpa using hf
    rw [if_neg hf, List.append_nil] at HIn
    have HJ3 := hide (show J (lvP es s (i + 1)) _ from HIn.out ▸ HJ2.out)
    clear hf HIn HJ2
    gi_wp2
    (repeat (refine ⟨(fun _ h => nomatch h), ?_⟩; gi_wp2))
    go_roundw
    case rel => exact ⟨i + 1, hlt, by go_num, HJ3.out, HN2.out⟩
    case measure => simp [intOf]; omega
  ·obtain rfl : i = es.length := by omega
   gi_wp2
   go_end0
   exact ⟨⟨_, rfl⟩, .inl ⟨_, rfl, hJs⟩⟩
theorem leavingf_stops (n : Nat) (hn : 1 ≤ n) (c0 c1 c : Nat) (s : Int) (es : List Edg) (A : Option Addr) (hl : es.length ≤ 4294967296) (Kp : World → World → Prop) (hKr : ∀ W, Kp W W) (hKa : ∀ W (cs : Array Value), Kp W (W.alloc (.cells cs 72))) (hKt : ∀ {X Y Z : World}, Kp X Y → Kp Y Z → Kp X Z) (w : World)
  (hR : ∀ W W', Below w.heap.size w W → Kp W W' → RowE W' A es ∧ W'.cell? ⟨c0, 2, none⟩ = some (.slice A es.length c) ∧ W'.cell? ⟨c1, 0, none⟩ = some (.int .i64 s)) :
  SeqStopsK Fence.wide n Tryz.prog 264 #[.pointer (some ⟨c0, 0, none⟩), .pointer (some ⟨c1, 0, none⟩)] encL Kp (fun ys => ys = lvs es s) (fun pre => pre <+: lvs es s) (lvs es s).length w := by
 intro l J Jx W hW hJ _ hY h0
 refine leavingf_in n hn l c0 c1 c W.heap.size s es A hl Kp hKr hKa hKt J Jx hJ ?_ W (fun W' hW' => hR W W' hW hW') h0
 intro pre x W1 h hp
 have hl := hp.length_le
 simp at hl
 exact hY pre x W1 h (by omega)
end
def mark (D : Nat) : Deferred := { target := .collected D, args := #[] }
def Marks (base : Nat) (ds : List Deferred) (w : World) : Prop := ∃ Ds : List Nat, ds = Ds.map mark ∧ Ds.Nodup ∧ ∀ D ∈ Ds, base ≤ D ∧ w.heap[D]? = some (.deferred (some []))
theorem Marks.nil (base : Nat) (w : World) : Marks base [] w := ⟨[], rfl, List.nodup_nil, fun _ h => nomatch h⟩
theorem Marks.kept {base : Nat} {ds : List Deferred} {w w' : World} (h : Marks base ds w) (hk : ∀ D, base ≤ D → w.heap[D]? = some (.deferred (some [])) → w'.heap[D]? = some (.deferred (some []))) : Marks base ds w' := by
 obtain ⟨Ds, h1, h2, h3⟩ := h
 exact ⟨Ds, h1, h2, fun D hD => ⟨(h3 D hD).1, hk D (h3 D hD).1 (h3 D hD).2⟩⟩
theorem Marks.cons {base : Nat} {ds : List Deferred} {w0 w : World} {D : Nat} (h0 : Marks base ds w0) (h : Marks base ds w) (hb : base ≤ w0.heap.size) (hD : w0.heap.size ≤ D) (hd : w.heap[D]? = some (.deferred (some []))) : Marks base (mark D :: ds) w := by
 obtain ⟨Ds, h1, h2, h3⟩ := h
 obtain ⟨Es, e1, _, e3⟩ := h0
 have hin : ∀ (x y : List Nat), x.map mark = y.map mark → x = y := fun x y => List.map_inj_right (fun a b e => by simpa [mark] using e) |>.1
 obtain rfl : Ds = Es := hin _ _ (h1.symm.trans e1)
 refine ⟨D :: Ds, by rw [h1]; rfl, List.nodup_cons.2 ⟨fun hm => ?_, h2⟩, fun E hE => ?_⟩
 ·have := (Array.getElem?_eq_some_iff.1 (e3 D hm).2).1
  omega
 ·rcases List.mem_cons.1 hE with rfl | hE
  ·exact ⟨by omega, hd⟩
  ·exact h3 E hE
structure Shut (base : Nat) (w w' : World) : Prop where
 os : w'.os = w.os
 tape : w'.tape = w.tape
 output : w'.output = w.output
 size : w'.heap.size = w.heap.size
 block : ∀ k, k < base → w'.heap[k]? = w.heap[k]?
 cells : ∀ (k : Nat) (o : Obj), w.heap[k]? = some o → (∀ d, o ≠ Obj.deferred d) → w'.heap[k]? = some o
theorem Shut.refl (base : Nat) (w : World) : Shut base w w := ⟨rfl, rfl, rfl, rfl, fun _ _ => rfl, fun _ _ h _ => h⟩
theorem Shut.trans {base : Nat} {a b c : World} (h : Shut base a b) (k : Shut base b c) : Shut base a c :=
 ⟨k.os.trans h.os, k.tape.trans h.tape, k.output.trans h.output, k.size.trans h.size, fun i hi => (k.block i hi).trans (h.block i hi), fun i o hi ho => k.cells i o (h.cells i o hi ho) ho⟩
theorem Shut.below {base B : Nat} {a w w' : World} (h : Shut base w w') (hb : Below B a w) (hB : B ≤ base) : Below B a w' :=
 ⟨h.os.trans hb.os, h.tape.trans hb.tape, h.output.trans hb.output, Nat.le_trans hb.size (Nat.le_of_eq h.size.symm), fun k hk => (h.block k (by omega)).trans (hb.block k hk)⟩
theorem Shut.row {base : Nat} {w w' : World} {k : Nat} {cs : Array Value} {t : TypeId} {fr : Nat × Nat} (h : Shut base w w') (hk : w.heap[k]? = some (.cells cs t fr)) : w'.heap[k]? = some (.cells cs t fr) := h.cells k _ hk (fun d e => by cases e)
theorem Shut.cell {base : Nat} {w w' : World} {a : Addr} {v : Value} (h : Shut base w w') (hc : w.cell? a = some v) : w'.cell? a = some v := by
 obtain ⟨o, ho, hcc⟩ := cells_of_cell hc
 refine (World.cell?_of_block ?_).trans hc
 rw [ho]
 exact h.cells _ _ ho (fun d e => by rw [e] at hcc; cases hcc)
theorem Shut.ownsRow {base B : Nat} {w w' : World} {e : TypeId} {sz n : Nat} {v : Value} {xs : List Value} (h : Shut base w w') (hr : w.ownsRow B e sz v n xs) : w'.ownsRow B e sz v n xs := by
 refine ⟨hr.1, ?_⟩
 rcases hr.2 with h' | ⟨g, cap, cur, h1, h2, h3, h4⟩
 ·exact .inl h'
 ·exact .inr ⟨g, cap, cur, h1, h2, h.row h3, h4⟩
theorem shut_one {base : Nat} {w : World} {D : Nat} (hb : base ≤ D) (h : w.heap[D]? = some (.deferred (some []))) : Shut base w (w.putObj D (.deferred none)) :=
 ⟨rfl, rfl, rfl, by simp [World.putObj], fun k hk => World.putObj_heap_other (by omega), fun k o hk ho => by
  rw [World.putObj_heap_other (fun e => by subst e; rw [h] at hk; cases hk; exact ho _ rfl)]
  exact hk⟩
theorem leaves_marks {F : Fence} {n : Nat} {P : Program} {fn : Func} {tmps : Array Value} {R : Ending → World → Prop} {base : Nat} : ∀ {ds : List Deferred} {w : World}, Marks base ds w →
  (∀ w', Shut base w w' → ∃ v, (results fn tmps).run P w' = .ok v w' ∧ R (.returned v) w') → LeavesInM F n P fn tmps R ds .returning w := by
 intro ds
 induction ds with
 | nil => exact fun {w} _ hR => hR w (Shut.refl _ _)
 | cons d ds ih =>
  intro w hm hR
  obtain ⟨Ds, h1, h2, h3⟩ := hm
  cases Ds with
  | nil => cases h1
  | cons D Ds =>
   simp only [List.map_cons, List.cons.injEq] at h1
   obtain ⟨rfl, rfl⟩ := h1
   obtain ⟨hb, hd⟩ := h3 D (List.mem_cons_self ..)
   rw [List.nodup_cons] at h2
   have hS := shut_one hb hd
   refine ⟨by simp, .inl ⟨D, _, rfl, run_takeDeferred hd, ih ⟨Ds, rfl, h2.2, fun E hE => ⟨(h3 E (List.mem_cons_of_mem _ hE)).1, ?_⟩⟩ fun w' hw' => hR w' (hS.trans hw')⟩⟩
   rw [World.putObj_heap_other (show E ≠ D from fun e => h2.1 (e ▸ hE))]
   exact (h3 E (List.mem_cons_of_mem _ hE)).2
structure KS (S : Nat → Prop) (w w' : World) : Prop where
 os : w'.os = w.os
 tape : w'.tape = w.tape
 output : w'.output = w.output
 size : w.heap.size ≤ w'.heap.size
 block : ∀ k, k < w.heap.size → S k → w'.heap[k]? = w.heap[k]?
theorem KS.refl (S : Nat → Prop) (w : World) : KS S w w := ⟨rfl, rfl, rfl, Nat.le_refl _, fun _ _ _ => rfl⟩
theorem KS.trans {S : Nat → Prop} {a b c : World} (h : KS S a b) (k : KS S b c) : KS S a c :=
 ⟨k.os.trans h.os, k.tape.trans h.tape, k.output.trans h.output, Nat.le_trans h.size k.size, fun i hi hs => (k.block i (Nat.lt_of_lt_of_le hi h.size) hs).trans (h.block i hi hs)⟩
theorem KS.mono {S T : Nat → Prop} {a b : World} (h : KS S a b) (hs : ∀ k, T k → S k) : KS T a b := ⟨h.os, h.tape, h.output, h.size, fun k hk hT => h.block k hk (hs k hT)⟩
theorem KS.grown {S : Nat → Prop} {a w w' : World} {row : Option Nat} (h : KS S a w) (hg : w.grownBy w' row) (hr : ∀ k, row = some k → ¬ S k) : KS S a w' :=
 ⟨hg.os.trans h.os, hg.tape.trans h.tape, hg.output.trans h.output, Nat.le_trans h.size hg.size, fun k hk hs => (hg.block k (Nat.lt_of_lt_of_le hk h.size) (fun e => hr k e.symm hs)).trans (h.block k hk hs)⟩
theorem KS.alloc {S : Nat → Prop} {a w : World} (h : KS S a w) (o : Obj) : KS S a (w.alloc o) := h.grown (World.grownBy_alloc w o none) (fun _ e => by cases e)
theorem KS.below {S : Nat → Prop} {B : Nat} {a w : World} (h : KS S a w) (hS : ∀ k, k < B → S k) (hB : B ≤ a.heap.size) : Below B a w := ⟨h.os, h.tape, h.output, h.size, fun k hk => h.block k (by omega) (hS k hk)⟩
theorem KS.of_below {S : Nat → Prop} {B : Nat} {a w : World} (h : Below B a w) (hS : ∀ k, S k → k < B) : KS S a w := ⟨h.os, h.tape, h.output, h.size, fun k _ hs => h.block k (hS k hs)⟩
theorem KS.cell {S : Nat → Prop} {a w : World} (h : KS S a w) {p : Addr} {v : Value} (hp : a.cell? p = some v) (hs : S p.block) : w.cell? p = some v :=
 (World.cell?_of_block (h.block _ (World.block_lt_of_cell? a _ hp) hs)).trans hp
theorem ownFrom_ks {β : Type} {S : Nat → Prop} {B : Nat} {w₀ : World} (hS : ∀ k, B ≤ k → w₀.heap.size ≤ k → ¬ S k) (hB : w₀.heap.size ≤ B) : OwnFrom B (fun (_ : β) W => KS S w₀ W) :=
 fun _ _ _ _ hs hg hr => hs.grown hg (fun k e => hS k (hr k e).1 (Nat.le_trans hB (hr k e).1))
theorem ks_b {S : Nat → Prop} {w : World} (hS : ∀ k, w.heap.size ≤ k → ¬ S k) (W : World) (l : Nat) (o o' : Obj) (hl : w.heap.size ≤ l) (h : W.heap[l]? = some o) (_ : o.isCells = false) (_ : o.isWalk = false) : KS S W (W.putObj l o') :=
 (KS.refl S W).grown (grownBy_putObj' W l o') (fun k e => by cases e; exact hS _ hl)
theorem Marks.own {β : Type} {base B : Nat} {ds : List Deferred} {w : World} (hB : w.heap.size ≤ B) (h : Marks base ds w) : OwnFrom B (fun (_ : β) W => KS (fun k => ∃ D, mark D ∈ ds ∧ k = D) w W) :=
 ownFrom_ks (fun k hk hw => by
  rintro ⟨D, hD, rfl⟩
  obtain ⟨Ds, rfl, _, h3⟩ := h
  obtain ⟨E, hE, e⟩ := List.mem_map.1 hD
  obtain rfl : E = k := by simpa [mark] using e
  have := (Array.getElem?_eq_some_iff.1 (h3 E hE).2).1
  omega) hB
section
def AbidesB {α : Type} (B : Nat) (blk : α → Nat) (J : List α → World → Prop) : Prop :=
 ∀ pre W W' row, J pre W → W.grownBy W' row → (∀ r, row = some r → B ≤ r ∧ ∃ o : Obj, W.heap[r]? = some o ∧ (o.isWalk = true ∨ (o.isCells = true ∧ ∀ x ∈ pre, blk x ≠ r))) → J pre W'
def OwnB {α : Type} (B : Nat) (blk : α → Nat) (I : List α → World → Prop) : Prop :=
 ∀ pre W W' row, I pre W → W.grownBy W' row → (∀ r, row = some r → B ≤ r ∧ ∃ o : Obj, W.heap[r]? = some o ∧ (o.isCells = false ∨ ∀ x ∈ pre, blk x ≠ r)) → I pre W'
theorem OwnB.alloc {α : Type} {B : Nat} {blk : α → Nat} {I : List α → World → Prop} (h : OwnB B blk I) {pre : List α} {W : World} (o : Obj) (hs : I pre W) : I pre (W.alloc o) := h pre W _ none hs (World.grownBy_alloc W o none) (fun r e => by cases e)
theorem OwnB.putObj {α : Type} {B : Nat} {blk : α → Nat} {I : List α → World → Prop} (h : OwnB B blk I) {pre : List α} {W : World} {l : Nat} {o : Obj} (o' : Obj) (hs : I pre W) (hB : B ≤ l) (hl : W.heap[l]? = some o) (ho : o.isCells = false) : I pre (W.putObj l o') :=
 h pre W _ (some l) hs (grownBy_putObj' W l o') (fun r e => by cases e; exact ⟨hB, o, hl, .inl ho⟩)
def SeqPre {α : Type} (F : Fence) (n : Nat) (P : Program) (g : Nat) (lb : Array Value) (encs : α → Array Value) (Kp : World → World → Prop) (Pre : α → World → Prop) (blk : α → Nat) (S Sp : List α → Prop) (w : World) : Prop :=
 ∀ (l : Nat) (J Jx : List α → World → Prop) (W : World), Below w.heap.size w W → AbidesB W.heap.size blk J → AbidesB W.heap.size blk Jx →
  (∀ pre x W1, J pre W1 → Pre x W1 → YieldAt F (n - 1) P l (encs x) W1 fun e W' => (e = .returned (.bool true) ∧ J (pre ++ [x]) W' ∧ Kp W1 W') ∨ (e = .returned (.bool false) ∧ Jx (pre ++ [x]) W')) →
  J [] W → CallsIn F n P g (#[.func (.yield l) #[] #[]] ++ lb) W fun e W' => (∃ v, e = .returned v) ∧ ((∃ xs, S xs ∧ J xs W') ∨ (∃ pre, Sp pre ∧ Jx pre W'))
section
variable {F : Fence} {n : Nat} {P : Program}
structure Book (w : World) (o d : Obj) (W : World) : Prop where
 loop : W.heap[w.heap.size + 1]? = some o
 calls : W.heap[w.heap.size]? = some d
theorem Book.keeps {w W W' : World} {o d : Obj} (h : Book w o d W) (hk : KeepsFrom w.heap.size W W') (h1 : o.isCells = false) (h2 : d.isCells = false) : Book w o d W' :=
 ⟨hk.same _ _ (by omega) h.loop h1, hk.same _ _ (Nat.le_refl _) h.calls h2⟩
theorem Book.turn {w W : World} {o d : Obj} (h : Book w o d W) (o' : Obj) : Book w o' d (W.putObj (w.heap.size + 1) o') :=
 ⟨World.putObj_heap_same (Array.getElem?_eq_some_iff.1 h.loop).1, (World.putObj_heap_other (by omega)).trans h.calls⟩
theorem wpIn_rangeFunc_pre {α : Type} {g : Operand} {ps : Array Tmp} {assign body : Code} {Q : Exit → Act → World → Prop} {a : Act} {w : World}
  (hro : F.round = none) (h1 : 1 ≤ n) {gf : Nat} {lb : Array Value} (hg : a.eval g = .func (.func gf) #[] lb) (hFg : F.fn gf) (eg : ∀ args w, (callFunc gf args).run P w = .ok (.enter gf args) w)
  {encs : α → Array Value} (hps : ∀ x, (encs x).size = ps.size) {Kp : World → World → Prop} {Pre : α → World → Prop} {blk : α → Nat} {S Sp : List α → Prop} (hseq : SeqPre F (n - 1) P gf lb encs Kp Pre blk S Sp w)
  (hKt : ∀ {A B C : World}, Kp A B → Kp B C → Kp A C) (hKb : ∀ (W : World) (l : Nat) (o o' : Obj), w.heap.size ≤ l → W.heap[l]? = some o → o.isCells = false → o.isWalk = false → Kp W (W.putObj l o'))
  (I : List α → World → Prop) (Ix : Code → List α → World → Prop) (hI : OwnB w.heap.size blk I) (hIx : ∀ c, OwnB w.heap.size blk (Ix c)) (h0 : I [] w) (Ax : List α → α → Act → World → Prop) (hAx : ∀ pre x a', OwnFrom w.heap.size (fun (_ : Unit) W => Ax pre x a' W))
  (hassign : ∀ (l : Nat) (pre : List α) (x : α) (W : World) (K : Act → World → Prop), I pre W → Pre x W → (∀ a' W', KeepsFrom w.heap.size W W' → Kp W W' → Ax pre x a' W' → K a' W') →
   assign.wpIn (F.inRound l) (n - 1 - 1) P (Exit.then K (fun _ _ _ => False)) { tmps := (ps.zip (encs x)).foldl (fun t (p, v) => t.setIfInBounds p v) a.tmps, defers := [] } W)
  (hbody : ∀ (l : Nat) (pre : List α) (x : α) (a' : Act) (W : World), Ax pre x a' W → body.wpIn (F.inRound l) (n - 1 - 1) P (ownPostG w.heap.size Kp I Ix (pre ++ [x]) W) a' W)
  (hdone : ∀ (D : Nat) (xs : List α) (W : World), w.heap.size ≤ D → S xs → I xs W → W.heap[D]? = some (.deferred (some [])) → Q .normal { a with defers := { target := .collected D, args := #[] } :: a.defers } W)
  (hstop : ∀ (D : Nat) (c : Code) (pre : List α) (W : World), w.heap.size ≤ D → Sp pre → Ix c pre W → W.heap[D]? = some (.deferred (some [])) → c.wpIn F n P Q { a with defers := { target := .collected D, args := #[] } :: a.defers } W) :
  (Code.rangeFunc g ps assign body).wpIn F n P Q a w := by
 refine wpIn_rangeFunc fun fn hfn => ?_
 rw [hro]
 let rec_ : LoopState → Option Code → Obj := fun st pe => .loop { state := st, pending := pe, fn, tmps := a.tmps, params := ps, assign, body, defers := w.heap.size }
 have hR : rec_ = fun st pe => .loop { state := st, pending := pe, fn, tmps := a.tmps, params := ps, assign, body, defers := w.heap.size } := rfl
 obtain ⟨W1, hW1⟩ : ∃ W1, (w.alloc (.deferred (some []))).alloc (rec_ .ready none) = W1 := ⟨_, rfl⟩
 have hB1 : Book w (rec_ .ready none) (.deferred (some [])) W1 := by
  rw [← hW1]
  refine ⟨?_, (Below.heap_alloc _ _ _ (by simp)).trans (World.alloc_heap_new w _)⟩
  have := World.alloc_heap_new (w.alloc (.deferred (some []))) (rec_ .ready none)
  rwa [World.size_alloc] at this
 have hz1 : W1.heap.size = w.heap.size + 2 := by rw [← hW1]; simp
 have hb1 : Below w.heap.size w W1 := by rw [← hW1]; exact ((Below.refl _ w).alloc (Nat.le_refl _) _).alloc (by simp) _
 have hI1 : I [] W1 := by rw [← hW1]; exact hI.alloc _ (hI.alloc _ h0)
 have low : ∀ {X : World} {row : Option Nat} {pre : List α}, (∀ r, row = some r → W1.heap.size ≤ r ∧ ∃ o : Obj, X.heap[r]? = some o ∧ (o.isWalk = true ∨ (o.isCells = true ∧ ∀ x ∈ pre, blk x ≠ r))) → ∀ r, row = some r → w.heap.size ≤ r ∧ ∃ o : Obj, X.heap[r]? = some o ∧ (o.isCells = false ∨ ∀ x ∈ pre, blk x ≠ r) := fun h r e => by
  obtain ⟨a, o, b, c⟩ := h r e
  exact ⟨by omega, o, b, c.elim (fun c => .inl (Obj.not_cells_of_walk c)) (fun c => .inr c.2)⟩
 have bk : ∀ {X Y : World} {row : Option Nat} {o d : Obj}, Book w o d X → X.grownBy Y row → (∀ r, row = some r → W1.heap.size ≤ r) → Book w o d Y := fun hb hgr hr =>
  ⟨(hgr.block _ (Array.getElem?_eq_some_iff.1 hb.loop).1 (fun e => by have := hr _ e.symm; omega)).trans hb.loop, (hgr.block _ (Array.getElem?_eq_some_iff.1 hb.calls).1 (fun e => by have := hr _ e.symm; omega)).trans hb.calls⟩
 refine ⟨w.heap.size + 1, [{ target := .collected w.heap.size, args := #[] }], W1, { target := .fn (.func gf) lb, args := #[.func (.yield (w.heap.size + 1)) #[] #[]] }, W1, gf, #[.func (.yield (w.heap.size + 1)) #[] #[]] ++ lb, W1, ?_, ?_, ?_, ?_, fun _ => h1, ?_⟩
 ·rw [← hW1]; exact run_enterLoop_outer _ _ _ _ _
 ·simp only [resolve, hg]; simp [go_sem]
 ·intro f' hf'; simp [Target.leads] at hf'; subst hf'; exact hFg
 ·simp [invoke, go_sem, eg]
 refine (hseq (w.heap.size + 1) (fun pre W => I pre W ∧ Book w (rec_ .ready none) (.deferred (some [])) W) (fun pre W => ∃ c, Ix c pre W ∧ Book w (rec_ .done (some c)) (.deferred (some [])) W) W1 hb1
  (fun s X Y row hs hgr hr => ⟨hI s X Y row hs.1 hgr (low hr), bk hs.2 hgr (fun r e => (hr r e).1)⟩)
  (fun s X Y row hs hgr hr => by obtain ⟨c, hc, hb⟩ := hs; exact ⟨c, hIx c s X Y row hc hgr (low hr), bk hb hgr (fun r e => (hr r e).1)⟩) ?_ ⟨hI1, hB1⟩).mono ?_
 ·rintro pre x W ⟨hi, hbk⟩ hpre
  have hy := run_yield (P := P) (args := encs x) hbk.loop (hps x)
  refine ⟨fn, _, assign, body, hy, roundIn_of_wpIn hfn (hassign _ pre x W _ hi hpre fun a' Wa hkf hkp hax => ?_)⟩
  have hba := hbk.keeps hkf rfl rfl
  refine ⟨_, run_beginRound hba.loop rfl, ?_⟩
  have hbb := hba.turn (rec_ .busy none)
  refine wpIn_mono (hbody _ pre x a' _ ((hAx pre x a').putObj (s := ()) _ hax (by omega) hba.loop rfl)) ?_
  have kb : ∀ {X : World} {o : Obj} (o' : Obj), Book w o (.deferred (some [])) X → o.isCells = false → o.isWalk = false → Kp X (X.putObj (w.heap.size + 1) o') := fun o' hb hc hw => hKb _ _ _ _ (by omega) hb.loop hc hw
  have fin : ∀ (jump : Option Code) (W3 : World), Book w (rec_ .busy none) (.deferred (some [])) W3 → (Instr.endRound (w.heap.size + 1) jump).run P W3 = .ok (.bool jump.isNone) (W3.putObj (w.heap.size + 1) (rec_ (if jump.isNone then .ready else .done) jump)) :=
   fun jump W3 h3 => run_endRound (P := P) jump h3.loop
  have left : ∀ (c : Code) (W3 : World), KeepsFrom w.heap.size (Wa.putObj (w.heap.size + 1) (rec_ .busy none)) W3 → Ix c (pre ++ [x]) W3 →
    ∃ c', Ix c' (pre ++ [x]) (W3.putObj (w.heap.size + 1) (rec_ .done (some c))) ∧ Book w (rec_ .done (some c')) (.deferred (some [])) (W3.putObj (w.heap.size + 1) (rec_ .done (some c))) := fun c W3 hk3 hi3 =>
   have h3 := hbb.keeps hk3 rfl rfl
   ⟨c, (hIx c).putObj _ hi3 (by omega) h3.loop rfl, h3.turn _⟩
  rintro e a3 W3 hp
  cases e with
  | normal =>
   obtain ⟨hk3, hkp3, hi3⟩ := hp
   have h3 := hbb.keeps hk3 rfl rfl
   exact ⟨_, _, fin none W3 h3, .inl ⟨rfl, ⟨hI.putObj _ hi3 (by omega) h3.loop rfl, h3.turn _⟩, hKt hkp (hKt (hKt (kb _ hba rfl rfl) hkp3) (kb _ h3 rfl rfl))⟩⟩
  | ret => exact ⟨_, _, fin (some .ret) W3 (hbb.keeps hp.1 rfl rfl), .inr ⟨rfl, left .ret W3 hp.1 hp.2⟩⟩
  | exit id => exact ⟨_, _, fin (some (.exit id)) W3 (hbb.keeps hp.1 rfl rfl), .inr ⟨rfl, left (.exit id) W3 hp.1 hp.2⟩⟩
  | goto t => exact ⟨_, _, fin (some (.goto t)) W3 (hbb.keeps hp.1 rfl rfl), .inr ⟨rfl, left (.goto t) W3 hp.1 hp.2⟩⟩
  | panic ch => exact hp.elim
  | outgrown => exact hp.elim
 ·rintro e W2 ⟨⟨v, rfl⟩, (⟨xs, hS, hi, hb⟩ | ⟨pre, hSp, c, hi, hb⟩)⟩
  ·exact ⟨none, _, run_endLoop (P := P) hb.loop (by simp), hdone _ xs _ (Nat.le_refl _) hS (hI.putObj _ hi (by omega) hb.loop rfl) ((World.putObj_heap_other (by omega)).trans hb.calls)⟩
  ·exact ⟨some c, _, run_endLoop (P := P) hb.loop (by simp), hstop _ c pre _ (Nat.le_refl _) hSp ((hIx c).putObj _ hi (by omega) hb.loop rfl) ((World.putObj_heap_other (by omega)).trans hb.calls)⟩
end
end
end Go.Proofs.YtbnpjoiojhnimaaGreatDoor
namespace Go.Proofs.YtbnpjoiojhnimaaGreatDoor
open Go.RowKit
set_option maxRecDepth 100000 in
set_option maxHeartbeats 2000000 in
theorem ifS3_any (FN : Nat) (c1 c2 c3 : Value) (el : Nat → Value) (b : Nat → Bool) (n c g o : Nat) (w : World) (hn : n ≤ 4294967296) (hgl : g < w.heap.size) (hc : ∀ i, i < n → w.cell? ⟨g, o + i, none⟩ = some (el i))
  (hcf : ∀ (args : Array Value) (W : World), (callFunc FN args).run Tryz.prog W = .ok (.enter FN args) W)
  (H : Hid (∀ i W, i < n → Below w.heap.size w W → Calls Tryz.prog FN #[(el i), c1, c2, c3] W fun e W' => e = .returned (.bool (b i)) ∧ Below W.heap.size W W')) :
  Calls Tryz.prog 232 #[.slice (some ⟨g, o, none⟩) n c, .func (.func FN) #[] #[c1, c2, c3]] w fun e w' => ∃ z : Int, e = .returned (.int .i64 z) ∧ decide (0 ≤ z) = (List.range n).any b ∧ Below w.heap.size w w' := by
 have HC := hide hc
 clear hc
 go_enter Tryz.func232, Tryz.ntmps232
 go_wp2
 go_loopw [8] (fun iv wr => ∃ i : Nat, iv = .int .i64 i ∧ i ≤ n ∧ Hid (∀ j, j < i → b j = false) ∧ Below w.heap.size w wr) (fun iv _ => n - (intOf iv).toNat)
 case atStart => exact ⟨0, rfl, Nat.zero_le _, hide fun j h => absurd h (by omega), Below.refl _ _⟩
 case round =>
  obtain ⟨i, rfl, hi, hJ, hB⟩ := hrel
  by_cases hlt : i < n
  ·have hi0 : (0 : Int) ≤ (i : Int) := by omega
   have hi1 : (i : Int) < (n : Int) := by omega
   have y0 := (hB.cell (p := ⟨g, o + i, none⟩) hgl).trans (HC.out i hlt)
   have HF := hide (H.out i wr hlt hB)
   have HB := hide hB
   clear hB
   cases hb : b i with
   | true =>
    rw [hb] at HF
    have HA := hide (show (List.range n).any b = true by
     rw [List.any_eq_true]
     exact ⟨i, List.mem_range.2 hlt, hb⟩)
    clear hb
    go_wp2_with fail
    (with_reducible refine HF.out.mono ?_)
    rintro e w1 ⟨rfl, hB1⟩
    have HB1 := hide (HB.out.trans (hB1.mono HB.out.size))
    clear hB1
    go_wp2
    go_ret
    exact ⟨_, rfl, by rw [HA.out]; exact decide_eq_true hi0, HB1.out⟩
   | false =>
    rw [hb] at HF
    have HJ2 := hide (show ∀ j, j < i + 1 → b j = false from fun j hj => by
     rcases Nat.lt_or_ge j i with h | h
     ·exact hJ.out j h
     ·obtain rfl : j = i := by omega
      exact hb)
    clear hb hJ
    go_wp2_with fail
    (with_reducible refine HF.out.mono ?_)
    rintro e w1 ⟨rfl, hB1⟩
    have HB1 := hide (HB.out.trans (hB1.mono HB.out.size))
    clear hB1
    go_wp2
    go_roundw
    case rel => exact ⟨i + 1, by go_num, hlt, HJ2, HB1.out⟩
    case measure => simp [intOf]; omega
  ·obtain rfl : i = n := by omega
   have HB := hide hB
   have HA := hide (show (List.range i).any b = false by
    rw [List.any_eq_false]
    intro j hj
    rw [hJ.out j (List.mem_range.1 hj)]
    simp)
   clear hB hJ
   go_wp2
   go_ret
   exact ⟨-1, rfl, by rw [HA.out]; rfl, HB.out⟩
set_option maxRecDepth 100000 in
set_option maxHeartbeats 1000000 in
theorem cfS3_any (FN : Nat) (c1 c2 c3 : Value) (el : Nat → Value) (b : Nat → Bool) (n c g o : Nat) (w : World) (hn : n ≤ 4294967296) (hgl : g < w.heap.size) (hc : ∀ i, i < n → w.cell? ⟨g, o + i, none⟩ = some (el i))
  (hcf : ∀ (args : Array Value) (W : World), (callFunc FN args).run Tryz.prog W = .ok (.enter FN args) W)
  (H : Hid (∀ i W, i < n → Below w.heap.size w W → Calls Tryz.prog FN #[(el i), c1, c2, c3] W fun e W' => e = .returned (.bool (b i)) ∧ Below W.heap.size W W')) :
  Calls Tryz.prog 177 #[.slice (some ⟨g, o, none⟩) n c, .func (.func FN) #[] #[c1, c2, c3]] w fun e w' => e = .returned (.bool ((List.range n).any b)) ∧ Below w.heap.size w w' := by
 have HI := hide (ifS3_any FN c1 c2 c3 el b n c g o w hn hgl hc hcf H)
 clear hc H hcf
 go_enter Tryz.func177, Tryz.ntmps177
 go_wp2_with fail
 (with_reducible refine HI.out.mono ?_)
 rintro e w1 ⟨z, rfl, hz, hB⟩
 have HZ := hide hz
 have HB := hide hB
 clear hz hB
 go_wp2
 go_ret
 exact ⟨by rw [← HZ.out]; rfl, HB.out⟩
end Go.Proofs.YtbnpjoiojhnimaaGreatDoor
namespace Go.Proofs.YtbnpjoiojhnimaaGreatDoor
open Go.RowKit Go.Shelf
section
attribute [local go_sem] Oper.semAt_some
def pf (x y : ByteArray) : List (ByteArray × List UInt8) := if Lib.hasPrefix y.data.toList x.data.toList && !(Lib.trimPrefix y.data.toList x.data.toList).isEmpty then [(y, Lib.trimPrefix y.data.toList x.data.toList)] else []
def frs (xs : List ByteArray) : List (ByteArray × List UInt8) := xs.flatMap fun x => xs.flatMap fun y => pf x y
def frsP (xs : List ByteArray) (i j : Nat) : List (ByteArray × List UInt8) := ((xs.take i).flatMap fun x => xs.flatMap fun y => pf x y) ++ (xs.take j).flatMap fun y => pf (xs.getD i ⟨#[]⟩) y
theorem frsP_zero (xs : List ByteArray) : frsP xs 0 0 = [] := by simp [frsP]
theorem frsP_in {xs : List ByteArray} {i j : Nat} (hj : j < xs.length) : frsP xs i (j + 1) = frsP xs i j ++ pf (xs.getD i ⟨#[]⟩) xs[j] := by
 unfold frsP
 rw [List.take_succ_eq_append_getElem hj, List.flatMap_append, List.append_assoc]
 simp
theorem frsP_out {xs : List ByteArray} {i : Nat} (hi : i < xs.length) : frsP xs i xs.length = frsP xs (i + 1) 0 := by
 unfold frsP
 rw [List.take_succ_eq_append_getElem hi, List.flatMap_append, List.take_length]
 simp [hi]
theorem frsP_end (xs : List ByteArray) : frsP xs xs.length 0 = frs xs := by
 unfold frsP frs; simp
theorem fm_pre {α β : Type} (f : α → List β) (l : List α) (k : Nat) : (l.take k).flatMap f <+: l.flatMap f := ⟨(l.drop k).flatMap f, by rw [← List.flatMap_append, List.take_append_drop]⟩
theorem frsP_pre {xs : List ByteArray} {i j : Nat} (hi : i < xs.length) (hj : j ≤ xs.length) : frsP xs i j <+: frs xs := by
 have h2 : frsP xs i j <+: frsP xs i xs.length := by
  unfold frsP
  rw [List.take_length]
  exact (List.prefix_append_right_inj _).2 (fm_pre _ _ _)
 refine h2.trans ?_
 rw [frsP_out hi]
 unfold frsP frs
 simp only [List.take_zero, List.flatMap_nil, List.append_nil]
 exact fm_pre _ _ _
def encF (x : ByteArray × List UInt8) : Array Value := #[.string x.1, .string ⟨x.2.toArray⟩]
set_option maxHeartbeats 1000000 in
theorem firsts_in (q : Int) (A : Option Addr) (n c : Nat) (w : World) :
  Calls Tryz.prog 134 #[.agg #[.int .i64 q, .slice A n c]] w fun e w' => e = .returned (.func (.func 193) #[] #[.pointer (some ⟨w.heap.size, 0, none⟩)]) ∧ w' = w.alloc (.cells #[.int .i64 q, .slice A n c] 27) := by
 go_enter Tryz.func134, Tryz.ntmps134
 go_wp2
 go_ret
 exact ⟨rfl, rfl⟩
set_option maxRecDepth 100000 in
set_option maxHeartbeats 2000000 in
theorem firstsf_in (n : Nat) (hn : 1 ≤ n) (l c0 c B : Nat) (xs : List ByteArray) (A : Option Addr) (hc : xs.length ≤ 4294967296) (Kp : World → World → Prop) (hKr : ∀ W, Kp W W) (hKt : ∀ {X Y Z : World}, Kp X Y → Kp Y Z → Kp X Z) (J Jx : List (ByteArray × List UInt8) → World → Prop) (hJ : AbidesFrom B J)
  (hY : ∀ pre x W, J pre W → pre ++ [x] <+: frs xs → YieldAt Fence.wide (n - 1) Tryz.prog l (encF x) W fun e W' =>
   (e = .returned (.bool true) ∧ J (pre ++ [x]) W' ∧ Kp W W') ∨ (e = .returned (.bool false) ∧ Jx (pre ++ [x]) W'))
  (W : World) (hR : ∀ W', Kp W W' → RowT W' A xs ∧ W'.cell? ⟨c0, 1, none⟩ = some (.slice A xs.length c)) (h0 : J [] W) :
  CallsIn Fence.wide n Tryz.prog 193 #[.func (.yield l) #[] #[], .pointer (some ⟨c0, 0, none⟩)] W fun e W' => (∃ v, e = .returned v) ∧
   ((∃ ys, ys = frs xs ∧ J ys W') ∨ (∃ pre, pre <+: frs xs ∧ Jx pre W')) := by
 have HR := hide hR
 have HY := hide hY
 have HC := hide (fun n s p W => callsIn_wide (n := n).2 (strings_CutPrefix s p W))
 obtain ⟨_, e0⟩ := hR W (hKr W)
 clear hR hY
 refine callsIn_of_wp Tryz.func193 rfl trivial ?_ rfl
 simp only [Tryz.ntmps193, List.size_toArray, List.length_cons, List.length_nil, Nat.reduceAdd, Nat.reduceSub, Array.replicate_succ, Array.replicate_zero, List.push_toArray, List.append_toArray, List.nil_append, List.cons_append]
 gi_wp2
 gi_loopw [12] (fun iv wr => ∃ i : Nat, i ≤ xs.length ∧ iv = .int .i64 i ∧ J (frsP xs i 0) wr ∧ Kp W wr) (fun iv _ => xs.length - (intOf iv).toNat)
 case atStart => exact ⟨0, Nat.zero_le _, rfl, by rw [frsP_zero]; exact h0, hKr _⟩
 case round =>
  obtain ⟨i, hi, rfl, hJs, hnx⟩ := hrel
  clear h0 e0
  by_cases hlt : i < xs.length
  ·have hi0 : (0 : Int) ≤ (i : Int) := by omega
   have hi1 : (i : Int) < (xs.length : Int) := by omega
   obtain ⟨hRo, e1⟩ := HR.out wr hnx
   obtain ⟨b, o, hAb, hbl, hcell⟩ := hRo (by omega)
   have e2 := hcell i hlt
   have HX := hide (show xs.getD i ⟨#[]⟩ = xs[i] by simp [hlt])
   obtain ⟨x, hx⟩ : ∃ x, xs[i] = x := ⟨_, rfl⟩
   rw [hx] at e2 HX
   have HAb := hide hAb
   have HJs := hide hJs
   have HNX := hide hnx
   rw [hAb]
   rw [hAb] at e1
   clear hx hRo hcell hJs hnx hAb
   obtain ⟨wr1, rfl⟩ : ∃ wr1, wr1 = wr := ⟨_, rfl⟩
   gi_wp2
   gi_loopw [19] (fun jv wr => ∃ j : Nat, j ≤ xs.length ∧ jv = .int .i64 j ∧ J (frsP xs i j) wr ∧ Kp W wr) (fun jv _ => xs.length - (intOf jv).toNat)
   case atStart => exact ⟨0, Nat.zero_le _, rfl, HJs.out, HNX.out⟩
   case round =>
    obtain ⟨j, hj, rfl, hJs, hnx⟩ := hrel
    clear e1 e2 HJs HNX
    obtain ⟨wr2, rfl⟩ : ∃ wr2, wr2 = wr := ⟨_, rfl⟩
    by_cases hjl : j < xs.length
    ·have hj0 : (0 : Int) ≤ (j : Int) := by omega
     have hj1 : (j : Int) < (xs.length : Int) := by omega
     obtain ⟨hRo, e1⟩ := HR.out wr2 hnx
     obtain ⟨b', o', hAb', hbl', hcell⟩ := hRo (by omega)
     have hbo : b' = b ∧ o' = o := by have h := HAb.out.symm.trans hAb'; simp at h; omega
     obtain ⟨rfl, rfl⟩ := hbo
     have e2 := hcell j hjl
     have HIn := hide (frsP_in (xs := xs) (i := i) hjl)
     obtain ⟨y, hy⟩ : ∃ y, xs[j] = y := ⟨_, rfl⟩
     rw [hy] at e2 HIn
     rw [HX.out] at HIn
     have HJs := hide hJs
     have HNX := hide hnx
     clear hy hRo hcell hJs hnx hAb' e1
     have HPf := hide (show pf x y = if Lib.hasPrefix y.data.toList x.data.toList && !(Lib.trimPrefix y.data.toList x.data.toList).isEmpty then [(y, Lib.trimPrefix y.data.toList x.data.toList)] else [] from rfl)
     have HCx := hide (HC.out (n - 1) y x wr2)
     have HLe := hide ((frsP_pre hlt (Nat.succ_le_of_lt hjl)).length_le)
     have HPre := hide (frsP_pre hlt (Nat.succ_le_of_lt hjl))
     obtain ⟨hp, hhp⟩ : ∃ hp, Lib.hasPrefix y.data.toList x.data.toList = hp := ⟨_, rfl⟩
     obtain ⟨tr, htr⟩ : ∃ tr, Lib.trimPrefix y.data.toList x.data.toList = tr := ⟨_, rfl⟩
     rw [hhp, htr] at HPf HCx
     clear hhp htr
     gi_wp2_with fail
     refine ⟨trivial, ?_⟩
     (with_reducible refine HCx.out.mono ?_)
     rintro e W3 ⟨rfl, rfl⟩
     cases hp with
     | false =>
      have HIn2 := hide (show frsP xs i (j + 1) = frsP xs i j by rw [HIn.out, HPf.out]; simp)
      clear HPf HCx HLe HPre HIn
      gi_wp2
      (repeat (refine ⟨(fun _ h => nomatch h), ?_⟩; gi_wp2))
      go_roundw
      case rel => exact ⟨j + 1, hjl, by go_num, by rw [HIn2.out]; exact HJs.out, HNX.out⟩
      case measure => simp [intOf]; omega
     | true =>
      cases tr with
      | nil =>
       have HIn2 := hide (show frsP xs i (j + 1) = frsP xs i j by rw [HIn.out, HPf.out]; simp)
       clear HPf HCx HLe HPre HIn
       gi_wp2
       (repeat (refine ⟨(fun _ h => nomatch h), ?_⟩; gi_wp2))
       go_roundw
       case rel => exact ⟨j + 1, hjl, by go_num, by rw [HIn2.out]; exact HJs.out, HNX.out⟩
       case measure => simp [intOf]; omega
      | cons u tr =>
       have hIn2 : frsP xs i (j + 1) = frsP xs i j ++ [(y, u :: tr)] := by rw [HIn.out, HPf.out]; simp
       have hY2 := HY.out (frsP xs i j) (y, u :: tr) W3 HJs.out (by have h := HPre.out; rw [hIn2] at h; exact h)
       rw [← hIn2] at hY2
       simp only [encF] at hY2
       obtain ⟨fn, tmps, assign, body, hy, hR⟩ := hY2
       have hne : ((⟨(u :: tr).toArray⟩ : ByteArray).toList == (⟨#[]⟩ : ByteArray).toList) = false := by
        rw [ByteArray.toList_eq, ByteArray.toList_eq]; rfl
       clear HPf HCx HLe HIn hIn2 HJs
       gi_wp2
       refine hR.mono ?_
       rintro e W4 (⟨rfl, hJ3, hk3⟩ | ⟨rfl, hJx3⟩)
       ·gi_wp2
        go_roundw
        case rel => exact ⟨j + 1, hjl, by go_num, hJ3, hKt HNX.out hk3⟩
        case measure => simp [intOf]; omega
       ·gi_wp2
        refine bodyPost_ret (results_none rfl _ _ _) rfl ?_
        exact ⟨⟨_, rfl⟩, .inr ⟨_, HPre.out, hJx3⟩⟩
    ·obtain rfl : j = xs.length := by omega
     have HJ2 := hide (show J (frsP xs (i + 1) 0) wr2 by rw [← frsP_out hlt]; exact hJs)
     have HNX := hide hnx
     clear hJs hnx
     gi_wp2
     go_roundw
     case rel => exact ⟨i + 1, hlt, by go_num, HJ2.out, HNX.out⟩
     case measure => simp [intOf]; omega
  ·obtain rfl : i = xs.length := by omega
   gi_wp2
   go_end0
   exact ⟨⟨_, rfl⟩, .inl ⟨_, rfl, by rw [frsP_end] at hJs; exact hJs⟩⟩
abbrev FrsT (xs : List ByteArray) := { x : ByteArray × List UInt8 // x ∈ frs xs }
theorem firstsf_stops (n : Nat) (hn : 1 ≤ n) (c0 c : Nat) (xs : List ByteArray) (A : Option Addr) (hc : xs.length ≤ 4294967296) (Kp : World → World → Prop) (hKr : ∀ W, Kp W W) (hKt : ∀ {X Y Z : World}, Kp X Y → Kp Y Z → Kp X Z) (w : World)
  (hR : ∀ W W', Below w.heap.size w W → Kp W W' → RowT W' A xs ∧ W'.cell? ⟨c0, 1, none⟩ = some (.slice A xs.length c)) :
  SeqStopsK Fence.wide n Tryz.prog 193 #[.pointer (some ⟨c0, 0, none⟩)] (fun x : FrsT xs => encF x.1) Kp (fun ys => ys.map Subtype.val = frs xs) (fun pre => pre.map Subtype.val <+: frs xs) (frs xs).length w := by
 intro l J Jx W hW hJ _ hY h0
 refine (firstsf_in n hn l c0 c W.heap.size xs A hc Kp hKr hKt (fun pre W => ∃ p : List (FrsT xs), p.map Subtype.val = pre ∧ J p W) (fun pre W => ∃ p : List (FrsT xs), p.map Subtype.val = pre ∧ Jx p W)
  (fun s A B row ⟨p, e, h⟩ hg hr => ⟨p, e, hJ p A B row h hg hr⟩) ?_ W (fun W' hW' => hR W W' hW hW') ⟨[], rfl, h0⟩).mono ?_
 ·rintro pre x W1 ⟨p, rfl, h⟩ hp
  have hx : x ∈ frs xs := hp.subset (by simp)
  have hl := hp.length_le
  simp at hl
  refine (hY p ⟨x, hx⟩ W1 h (by omega)).mono ?_
  rintro e W' (⟨h1, h2, h3⟩ | ⟨h1, h2⟩)
  ·exact .inl ⟨h1, ⟨_, by simp, h2⟩, h3⟩
  ·exact .inr ⟨h1, ⟨_, by simp, h2⟩⟩
 ·rintro e W' ⟨h1, ⟨ys, rfl, p, h2, h3⟩ | ⟨pre, h2, p, rfl, h3⟩⟩
  ·exact ⟨h1, .inl ⟨p, h2, h3⟩⟩
  ·exact ⟨h1, .inr ⟨p, h2, h3⟩⟩
end
section
attribute [local go_sem] Oper.semAt_some
def nxW (r x : ByteArray) : List (List UInt8 × Nat) := if Lib.hasPrefix r.data.toList x.data.toList then [(Lib.trimPrefix r.data.toList x.data.toList, 0)] else if Lib.hasPrefix x.data.toList r.data.toList then [(Lib.trimPrefix x.data.toList r.data.toList, (Lib.trimPrefix x.data.toList r.data.toList).length)] else []
def nxs (xs : List ByteArray) (r : ByteArray) : List (List UInt8 × Nat) := xs.flatMap fun x => nxW r x
def nxsP (xs : List ByteArray) (r : ByteArray) (i : Nat) : List (List UInt8 × Nat) := (xs.take i).flatMap fun x => nxW r x
theorem nxsP_succ {xs : List ByteArray} {r : ByteArray} {i : Nat} (hi : i < xs.length) : nxsP xs r (i + 1) = nxsP xs r i ++ nxW r xs[i] := by
 unfold nxsP
 rw [List.take_succ_eq_append_getElem hi, List.flatMap_append]
 simp
theorem nxsP_end (xs : List ByteArray) (r : ByteArray) : nxsP xs r xs.length = nxs xs r := by unfold nxsP nxs; rw [List.take_length]
theorem nxsP_pre (xs : List ByteArray) (r : ByteArray) (i : Nat) : nxsP xs r i <+: nxs xs r := fm_pre _ _ _
def encN (x : List UInt8 × Nat) : Array Value := #[.string ⟨x.1.toArray⟩, .int .i64 (x.2 : Int)]
set_option maxHeartbeats 1000000 in
theorem nexts_in (q : Int) (A : Option Addr) (n c : Nat) (r : ByteArray) (w : World) :
  Calls Tryz.prog 135 #[.agg #[.int .i64 q, .slice A n c], .string r] w fun e w' => e = .returned (.func (.func 195) #[] #[.pointer (some ⟨w.heap.size, 0, none⟩), .pointer (some ⟨w.heap.size + 1, 0, none⟩)]) ∧ w' = (w.alloc (.cells #[.int .i64 q, .slice A n c] 27)).alloc (.cells #[.string r] 9) := by
 go_enter Tryz.func135, Tryz.ntmps135
 go_wp2
 go_ret
 exact ⟨rfl, rfl⟩
set_option maxRecDepth 100000 in
set_option maxHeartbeats 4000000 in
theorem nextsf_in (n : Nat) (hn : 1 ≤ n) (l c0 c1 c B : Nat) (xs : List ByteArray) (r : ByteArray) (A : Option Addr) (hc : xs.length ≤ 4294967296) (Kp : World → World → Prop) (hKr : ∀ W, Kp W W) (hKt : ∀ {X Y Z : World}, Kp X Y → Kp Y Z → Kp X Z) (J Jx : List (List UInt8 × Nat) → World → Prop) (hJ : AbidesFrom B J)
  (hY : ∀ pre x W, J pre W → pre ++ [x] <+: nxs xs r → YieldAt Fence.wide (n - 1) Tryz.prog l (encN x) W fun e W' =>
   (e = .returned (.bool true) ∧ J (pre ++ [x]) W' ∧ Kp W W') ∨ (e = .returned (.bool false) ∧ Jx (pre ++ [x]) W'))
  (W : World) (hR : ∀ W', Kp W W' → RowT W' A xs ∧ W'.cell? ⟨c0, 1, none⟩ = some (.slice A xs.length c) ∧ W'.cell? ⟨c1, 0, none⟩ = some (.string r)) (h0 : J [] W) :
  CallsIn Fence.wide n Tryz.prog 195 #[.func (.yield l) #[] #[], .pointer (some ⟨c0, 0, none⟩), .pointer (some ⟨c1, 0, none⟩)] W fun e W' => (∃ v, e = .returned v) ∧
   ((∃ ys, ys = nxs xs r ∧ J ys W') ∨ (∃ pre, pre <+: nxs xs r ∧ Jx pre W')) := by
 have hz0 : ((0 : Nat) : Int) = 0 := rfl
 have HR := hide hR
 have HY := hide hY
 have HC := hide (fun n s p W => callsIn_wide (n := n).2 (strings_CutPrefix s p W))
 obtain ⟨_, e0, _⟩ := hR W (hKr W)
 clear hR hY
 refine callsIn_of_wp Tryz.func195 rfl trivial ?_ rfl
 simp only [Tryz.ntmps195, List.size_toArray, List.length_cons, List.length_nil, Nat.reduceAdd, Nat.reduceSub, Array.replicate_succ, Array.replicate_zero, List.push_toArray, List.append_toArray, List.nil_append, List.cons_append]
 gi_wp2
 gi_loopw [13] (fun iv wr => ∃ i : Nat, i ≤ xs.length ∧ iv = .int .i64 i ∧ J (nxsP xs r i) wr ∧ Kp W wr) (fun iv _ => xs.length - (intOf iv).toNat)
 case atStart => exact ⟨0, Nat.zero_le _, rfl, by rw [show nxsP xs r 0 = [] from rfl]; exact h0, hKr _⟩
 case round =>
  obtain ⟨i, hi, rfl, hJs, hnx⟩ := hrel
  clear h0 e0
  by_cases hlt : i < xs.length
  ·have hi0 : (0 : Int) ≤ (i : Int) := by omega
   have hi1 : (i : Int) < (xs.length : Int) := by omega
   obtain ⟨hRo, e1, e3⟩ := HR.out wr hnx
   obtain ⟨b, o, hAb, hbl, hcell⟩ := hRo (by omega)
   have e2 := hcell i hlt
   have HIn := hide (nxsP_succ (r := r) hlt)
   have HLe := hide ((nxsP_pre xs r (i + 1)).length_le)
   have HPre := hide (nxsP_pre xs r (i + 1))
   obtain ⟨x, hx⟩ : ∃ x, xs[i] = x := ⟨_, rfl⟩
   rw [hx] at e2 HIn
   have HJs := hide hJs
   have HNX := hide hnx
   rw [hAb]
   clear hx hRo hcell hJs hnx hAb e1
   obtain ⟨wr1, rfl⟩ : ∃ wr1, wr1 = wr := ⟨_, rfl⟩
   have HNx := hide (show nxW r x = if Lib.hasPrefix r.data.toList x.data.toList then [(Lib.trimPrefix r.data.toList x.data.toList, 0)] else if Lib.hasPrefix x.data.toList r.data.toList then [(Lib.trimPrefix x.data.toList r.data.toList, (Lib.trimPrefix x.data.toList r.data.toList).length)] else [] from rfl)
   have HC1 := hide (HC.out (n - 1) r x wr1)
   have HC2 := hide (HC.out (n - 1) x r wr1)
   obtain ⟨hp, hhp⟩ : ∃ hp, Lib.hasPrefix r.data.toList x.data.toList = hp := ⟨_, rfl⟩
   obtain ⟨tr, htr⟩ : ∃ tr, Lib.trimPrefix r.data.toList x.data.toList = tr := ⟨_, rfl⟩
   obtain ⟨hp2, hhp2⟩ : ∃ hp2, Lib.hasPrefix x.data.toList r.data.toList = hp2 := ⟨_, rfl⟩
   obtain ⟨tr2, htr2⟩ : ∃ tr2, Lib.trimPrefix x.data.toList r.data.toList = tr2 := ⟨_, rfl⟩
   rw [hhp, htr, hhp2, htr2] at HNx
   rw [hhp, htr] at HC1
   rw [hhp2, htr2] at HC2
   clear hhp htr hhp2 htr2
   gi_wp2_with fail
   refine ⟨trivial, ?_⟩
   (with_reducible refine HC1.out.mono ?_)
   rintro e W3 ⟨rfl, rfl⟩
   cases hp with
   | true =>
    have hIn2 : nxsP xs r (i + 1) = nxsP xs r i ++ [(tr, 0)] := by rw [HIn.out, HNx.out]; simp
    have hY2 := HY.out (nxsP xs r i) (tr, 0) W3 HJs.out (by have h := HPre.out; rw [hIn2] at h; exact h)
    rw [← hIn2] at hY2
    simp only [encN, hz0] at hY2
    obtain ⟨fn, tmps, assign, body, hy, hR⟩ := hY2
    clear HNx HC1 HC2 HLe HIn hIn2 HJs
    gi_wp2
    refine hR.mono ?_
    rintro e W4 (⟨rfl, hJ3, hk3⟩ | ⟨rfl, hJx3⟩)
    ·gi_wp2
     (repeat (refine ⟨(fun _ h => nomatch h), ?_⟩; gi_wp2))
     go_roundw
     case rel => exact ⟨i + 1, hlt, by go_num, hJ3, hKt HNX.out hk3⟩
     case measure => simp [intOf]; omega
    ·gi_wp2
     refine bodyPost_ret (results_none rfl _ _ _) rfl ?_
     exact ⟨⟨_, rfl⟩, .inr ⟨_, HPre.out, hJx3⟩⟩
   | false =>
    gi_wp2_with fail
    refine ⟨trivial, ?_⟩
    (with_reducible refine HC2.out.mono ?_)
    rintro e W3 ⟨rfl, rfl⟩
    cases hp2 with
    | true =>
     have hIn2 : nxsP xs r (i + 1) = nxsP xs r i ++ [(tr2, tr2.length)] := by rw [HIn.out, HNx.out]; simp
     have hY2 := HY.out (nxsP xs r i) (tr2, tr2.length) W3 HJs.out (by have h := HPre.out; rw [hIn2] at h; exact h)
     rw [← hIn2] at hY2
     simp only [encN, hz0] at hY2
     obtain ⟨fn, tmps, assign, body, hy, hR⟩ := hY2
     clear HNx HC1 HC2 HLe HIn hIn2 HJs
     gi_wp2
     refine hR.mono ?_
     rintro e W4 (⟨rfl, hJ3, hk3⟩ | ⟨rfl, hJx3⟩)
     ·gi_wp2
      (repeat (refine ⟨(fun _ h => nomatch h), ?_⟩; gi_wp2))
      go_roundw
      case rel => exact ⟨i + 1, hlt, by go_num, hJ3, hKt HNX.out hk3⟩
      case measure => simp [intOf]; omega
     ·gi_wp2
      refine bodyPost_ret (results_none rfl _ _ _) rfl ?_
      exact ⟨⟨_, rfl⟩, .inr ⟨_, HPre.out, hJx3⟩⟩
    | false =>
     have HIn2 := hide (show nxsP xs r (i + 1) = nxsP xs r i by rw [HIn.out, HNx.out]; simp)
     clear HNx HC1 HC2 HLe HPre HIn
     gi_wp2
     (repeat (refine ⟨(fun _ h => nomatch h), ?_⟩; gi_wp2))
     go_roundw
     case rel => exact ⟨i + 1, hlt, by go_num, by rw [HIn2.out]; exact HJs.out, HNX.out⟩
     case measure => simp [intOf]; omega
  ·obtain rfl : i = xs.length := by omega
   gi_wp2
   go_end0
   exact ⟨⟨_, rfl⟩, .inl ⟨_, rfl, by rw [nxsP_end] at hJs; exact hJs⟩⟩
abbrev NxsT (xs : List ByteArray) (r : ByteArray) := { x : List UInt8 × Nat // x ∈ nxs xs r }
theorem nextsf_stops (n : Nat) (hn : 1 ≤ n) (c0 c1 c : Nat) (xs : List ByteArray) (r : ByteArray) (A : Option Addr) (hc : xs.length ≤ 4294967296) (Kp : World → World → Prop) (hKr : ∀ W, Kp W W) (hKt : ∀ {X Y Z : World}, Kp X Y → Kp Y Z → Kp X Z) (w : World)
  (hR : ∀ W W', Below w.heap.size w W → Kp W W' → RowT W' A xs ∧ W'.cell? ⟨c0, 1, none⟩ = some (.slice A xs.length c) ∧ W'.cell? ⟨c1, 0, none⟩ = some (.string r)) :
  SeqStopsK Fence.wide n Tryz.prog 195 #[.pointer (some ⟨c0, 0, none⟩), .pointer (some ⟨c1, 0, none⟩)] (fun x : NxsT xs r => encN x.1) Kp (fun ys => ys.map Subtype.val = nxs xs r) (fun pre => pre.map Subtype.val <+: nxs xs r) (nxs xs r).length w := by
 intro l J Jx W hW hJ _ hY h0
 refine (nextsf_in n hn l c0 c1 c W.heap.size xs r A hc Kp hKr hKt (fun pre W => ∃ p : List (NxsT xs r), p.map Subtype.val = pre ∧ J p W) (fun pre W => ∃ p : List (NxsT xs r), p.map Subtype.val = pre ∧ Jx p W)
  (fun s A B row ⟨p, e, h⟩ hg hr => ⟨p, e, hJ p A B row h hg hr⟩) ?_ W (fun W' hW' => hR W W' hW hW') ⟨[], rfl, h0⟩).mono ?_
 ·rintro pre x W1 ⟨p, rfl, h⟩ hp
  have hx : x ∈ nxs xs r := hp.subset (by simp)
  have hl := hp.length_le
  simp at hl
  refine (hY p ⟨x, hx⟩ W1 h (by omega)).mono ?_
  rintro e W' (⟨h1, h2, h3⟩ | ⟨h1, h2⟩)
  ·exact .inl ⟨h1, ⟨_, by simp, h2⟩, h3⟩
  ·exact .inr ⟨h1, ⟨_, by simp, h2⟩⟩
 ·rintro e W' ⟨h1, ⟨ys, rfl, p, h2, h3⟩ | ⟨pre, h2, p, rfl, h3⟩⟩
  ·exact ⟨h1, .inl ⟨p, h2, h3⟩⟩
  ·exact ⟨h1, .inr ⟨p, h2, h3⟩⟩
end
end Go.Proofs.YtbnpjoiojhnimaaGreatDoor
