import Derived.Test.YtldgjljecbohoaaGreatDoorG21
import Derived.Laws.ResultCell
import Derived.Great.BuildSlice
import Derived.Laws.CopyOwn
import Derived.Test.YtldgjljecbohoaaGreatDoorG6
/- checker.Rate where 'Refute' finds a refusal: its contract. -/
set_option linter.unusedVariables false
namespace Go.Proofs.YtldgjljecbohoaaGreatDoor
open Go.RowKit Go.Shelf
theorem certSize : (Tryz.prog.info? 38).map (·.size) = some 19 := by kernel_rfl
theorem ret_cert {fn : Func} {p u : Tmp} (h : fn.results = #[.cell p 38, .tmp u]) (tmps : Array Value) (w : World) (g : Nat) (cs : Array Value) (hp : tmps.getD p undef = .pointer (some ⟨g, 0, none⟩)) (hg : w.heap[g]? = some (.cells cs 38 (0, 0))) (hcs : cs.size = 19) :
    (results fn tmps).run Tryz.prog w = .ok (.tuple #[.agg cs, tmps.getD u undef]) w := by
  rw [results_cell_tmp h, hp]
  simp [asAddr, Result.andThen, run_loadVar_row w g 38 38 cs (0, 0) _ hg Tryz.underlying38 rfl (by rw [hcs]; exact certSize)]
set_option maxRecDepth 100000 in
set_option maxHeartbeats 4000000 in
theorem ckRate_ok (L : Int) (n m : Nat) (es : List Edg) (A : Option Addr) (c : Nat) (w : World) (hG : okG L (n : Int) es = true) (hM : okM (m : Int) = true) (hn0 : 0 < n) (hn : n ≤ 32) (he : ∀ e ∈ es, inE n e) (hr : RowE w A es) (hb : refB n es m (outV n m es) = true) :
    Calls Tryz.prog 11 #[.agg #[.int .i64 L, .int .i64 (n : Int), .slice A es.length c], .int .i64 (m : Int)] w fun e w' => ∃ G I, e = .returned (.tuple #[.agg #[.int .i64 2, .int .i64 L, .int .i64 (n : Int), .slice A es.length c, .int .i64 0, .slice none 0 0, .int .i64 0, .slice none 0 0, .int .i64 0, .int .i64 0, .slice none 0 0, .slice none 0 0, .int .i64 0, .slice none 0 0, .slice (some ⟨G, 0, none⟩) n n, .slice (some ⟨I, 0, none⟩) 1 1, .slice none 0 0, .slice none 0 0, .slice none 0 0], .int .i64 0]) ∧
      w.heap.size ≤ G ∧ w.heap.size ≤ I ∧ SRow w' G (rowL n (outV n m es)) ∧ I < w'.heap.size ∧ w'.cell? ⟨I, 0, none⟩ = some (.int .i64 (m : Int)) ∧ Below w.heap.size w w' := by
  have hB0 : Below w.heap.size w (w.alloc (.cells #[.int .i64 L, .int .i64 (n : Int), .slice A es.length c] 24)) := (Below.refl _ w).alloc (Nat.le_refl _) _
  have hb0 : (w.alloc (.cells #[.int .i64 L, .int .i64 (n : Int), .slice A es.length c] 24)).heap[w.heap.size]? = some (.cells #[.int .i64 L, .int .i64 (n : Int), .slice A es.length c] 24 (0, 0)) := heap_alloc_new w _
  have HR := hide (fun W (hW : Below w.heap.size w W) => show Calls Tryz.prog 45 #[.agg #[.int .i64 L, .int .i64 (n : Int), .slice A es.length c], .int .i64 (m : Int)] W (fun e w' => ∃ G, e = .returned (.tuple #[.slice (some ⟨G, 0, none⟩) n n, .int .i64 0]) ∧ Below W.heap.size W w' ∧ W.heap.size ≤ G ∧ SRow w' G (rowL n (outV n m es))) from by
    refine (evRefute_ok L n m es A c W hG hM hn0 hn he (hr.below hW)).mono ?_
    rintro e w' ⟨h1, h2⟩
    rcases h2 with ⟨_, G, rfl, h3, h4⟩ | ⟨h2, _⟩
    · exact ⟨G, rfl, h1, h3, h4⟩
    · rw [hb] at h2; cases h2)
  clear hr he hG hM hb
  obtain ⟨Z, hZ⟩ : ∃ Z, w.heap.size = Z := ⟨_, rfl⟩
  rw [hZ] at hb0
  have HZ := hide hZ
  clear hZ
  go_enter Tryz.func11, Tryz.ntmps11
  go_wp2_with fail
  try rw [HZ.out]
  have HS0 := hide (show (w.alloc (Obj.cells #[.int .i64 L, .int .i64 (n : Int), .slice A es.length c] 24)).heap.size = Z + 1 by rw [← HZ.out]; simp)
  generalize w.alloc (Obj.cells #[.int .i64 L, .int .i64 (n : Int), .slice A es.length c] 24) = W0 at hb0 hB0 HS0 ⊢
  have hs0 : W0.heap.size = Z + 1 := HS0.out
  obtain ⟨CZ, hCZ⟩ : ∃ CZ : Array Value, CZ = #[.int .i64 0, .int .i64 0, .int .i64 0, .slice none 0 0, .int .i64 0, .slice none 0 0, .int .i64 0, .slice none 0 0, .int .i64 0, .int .i64 0, .slice none 0 0, .slice none 0 0, .int .i64 0, .slice none 0 0, .slice none 0 0, .slice none 0 0, .slice none 0 0, .slice none 0 0, .slice none 0 0] := ⟨_, rfl⟩
  rw [← hCZ]
  have hA : Below W0.heap.size W0 (W0.alloc (.cells CZ 38)) := (Below.refl _ W0).alloc (Nat.le_refl _) _
  have hbC : (W0.alloc (.cells CZ 38)).heap[Z + 1]? = some (.cells CZ 38 (0, 0)) := by rw [← hs0]; exact heap_alloc_new W0 _
  have hb1 := (hA.block Z (by omega)).trans hb0
  have hB1 := hB0.trans (hA.mono hB0.size)
  have hs1 : (W0.alloc (.cells CZ 38)).heap.size = Z + 2 := by rw [show Z + 2 = (Z + 1) + 1 from rfl, ← hs0]; simp
  generalize W0.alloc (.cells CZ 38) = W1 at hbC hb1 hB1 hs1 ⊢
  (with_reducible refine (HR.out W1 hB1).mono ?_)
  rintro e w2 ⟨G, rfl, hB2, hG, hRow⟩
  have hb2 := (hB2.block Z (by omega)).trans hb1
  have hbC2 := (hB2.block (Z + 1) (by omega)).trans hbC
  have g0 : w2.cell? ⟨Z, 0, none⟩ = some (.int .i64 L) := by rw [cell_of_row _ _ 0 _ 24 (0, 0) hb2]; rfl
  have g1 : w2.cell? ⟨Z, 1, none⟩ = some (.int .i64 (n : Int)) := by rw [cell_of_row _ _ 1 _ 24 (0, 0) hb2]; rfl
  have g2 : w2.cell? ⟨Z, 2, none⟩ = some (.slice A es.length c) := by rw [cell_of_row _ _ 2 _ 24 (0, 0) hb2]; rfl
  have HB2 := hide (hB1.trans (hB2.mono hB1.size))
  have HRow := hide hRow
  clear hb0 hb1 hbC hB0 hA HR hB1 hB2 hRow hs0 hb2
  have hCs : CZ.size = 19 := by rw [hCZ]; rfl
  clear hCZ
  obtain ⟨I, hI⟩ : ∃ I, w2.heap.size = I := ⟨_, rfl⟩
  have hA3 : Below I w2 (w2.alloc (.cells #[.int .i64 (m : Int)] 3)) := by rw [← hI]; exact (Below.refl _ w2).alloc (Nat.le_refl _) _
  have hI0 : (w2.alloc (.cells #[.int .i64 (m : Int)] 3)).heap[I]? = some (.cells #[.int .i64 (m : Int)] 3 (0, 0)) := by rw [← hI]; exact heap_alloc_new w2 _
  have hZI : Z + 2 ≤ I := by rw [← hI]; have := HB2.out.size; have := block_lt_of_cell g0; have := (Array.getElem?_eq_some_iff.1 hbC2).1; omega
  have hbC3 := (hA3.block (Z + 1) (by omega)).trans hbC2
  have HI := hide hI
  clear hI
  go_wp2_with (refine wpList_store_rowTo (by rfl) 38 _ _ (by rfl) (by rfl) (Z + 1) #[.int .i64 2, .int .i64 L, .int .i64 (n : Int), .slice A es.length c, .int .i64 0, .slice none 0 0, .int .i64 0, .slice none 0 0, .int .i64 0, .int .i64 0, .slice none 0 0, .slice none 0 0, .int .i64 0, .slice none 0 0, .slice (some ⟨G, 0, none⟩) n n, .slice (some ⟨w2.heap.size, 0, none⟩) 1 1, .slice none 0 0, .slice none 0 0, .slice none 0 0] (by rfl) (by rfl) 38 CZ hbC3 (by kernel_rfl) hCs (by kernel_rfl) ?_)
  refine bodyPost_ret (ret_cert rfl _ _ (Z + 1) _ rfl (setRow_heap _ _ CZ _ 38 (0, 0) hbC3) rfl) rfl ?_
  have hGZ : G ≠ Z + 1 := by omega
  have hIZ : I ≠ Z + 1 := by omega
  have hGI : G < I := by rw [← HI.out]; exact HRow.out.lt
  refine ⟨G, I, by rw [← HI.out]; rfl, by rw [HZ.out]; omega, by rw [HZ.out]; omega, ?_, ?_, ?_, ?_⟩
  · exact (setRow_other _ _ _ _ hGZ).trans ((hA3.block G hGI).trans HRow.out)
  · rw [setRow_size]; exact (Array.getElem?_eq_some_iff.1 hI0).1
  · rw [cell_setRow_other _ _ _ _ hIZ, cell_of_row _ _ 0 _ 3 (0, 0) hI0]; rfl
  · exact below_setRow (HB2.out.trans (hA3.mono (by rw [HZ.out]; omega))) (by rw [HZ.out]; omega) _
end Go.Proofs.YtldgjljecbohoaaGreatDoor

/- checker.kinds: its contract. -/
set_option linter.unusedVariables false
namespace Go.Proofs.YtldgjljecbohoaaGreatDoor
open Go.RowKit Go.Shelf
/-- what 'kinds' returns -/
def kindsV : Array Value := #[.nilFunc, .nilFunc, .func (.func 19) #[] #[], .func (.func 20) #[] #[], .func (.func 21) #[] #[], .func (.func 22) #[] #[], .func (.func 23) #[] #[], .func (.func 24) #[] #[], .func (.func 25) #[] #[], .func (.func 26) #[] #[], .func (.func 27) #[] #[], .func (.func 28) #[] #[], .func (.func 29) #[] #[], .func (.func 30) #[] #[], .func (.func 31) #[] #[], .func (.func 32) #[] #[], .func (.func 33) #[] #[], .func (.func 34) #[] #[], .func (.func 35) #[] #[], .func (.func 36) #[] #[], .func (.func 37) #[] #[], .func (.func 38) #[] #[]]
def kindsZ : Array Value := #[.nilFunc, .nilFunc, .nilFunc, .nilFunc, .nilFunc, .nilFunc, .nilFunc, .nilFunc, .nilFunc, .nilFunc, .nilFunc, .nilFunc, .nilFunc, .nilFunc, .nilFunc, .nilFunc, .nilFunc, .nilFunc, .nilFunc, .nilFunc, .nilFunc, .nilFunc]
set_option maxRecDepth 100000 in
set_option maxHeartbeats 4000000 in
theorem ckKinds_any (w : World) :
    Calls Tryz.prog 9 #[] w fun e w' => e = .returned (.agg kindsV) ∧ Below w.heap.size w w' := by
  have hA : Below w.heap.size w (w.alloc (.cells kindsZ 52)) := (Below.refl _ w).alloc (Nat.le_refl _) _
  have hN : (w.alloc (.cells kindsZ 52)).heap[w.heap.size]? = some (.cells kindsZ 52 (0, 0)) := heap_alloc_new w _
  go_enter Tryz.func9, Tryz.ntmps9
  go_wp2_with (refine wpList_store_rowTo (by rfl) 52 _ _ (by rfl) (by rfl) w.heap.size kindsV (by rfl) (by rfl) 52 kindsZ hN (by kernel_rfl) (by rfl) (by kernel_rfl) ?_)
  refine bodyPost_ret (results_cell_row rfl _ _ w.heap.size 52 kindsV (0, 0) _ rfl (setRow_heap _ _ kindsZ _ 52 (0, 0) hN) Tryz.underlying52 rfl (by kernel_rfl)) rfl ?_
  exact ⟨rfl, below_setRow hA (Nat.le_refl _) _⟩
end Go.Proofs.YtldgjljecbohoaaGreatDoor

/- checker.kinds$2, $3, $4: their contracts. -/
set_option linter.unusedVariables false
namespace Go.Proofs.YtldgjljecbohoaaGreatDoor
open Go.RowKit Go.Shelf
/-- the certificate lies there -/
def CrtAt (w : World) (R : Nat) (x : Crt) : Prop := w.heap[R]? = some (.cells x.cells 38 (0, 0))
theorem CrtAt.cell {w : World} {R : Nat} {x : Crt} (h : CrtAt w R x) (j : Nat) : w.cell? ⟨R, j, none⟩ = x.cells[j]? := cell_of_row _ _ _ _ 38 (0, 0) h
theorem CrtAt.free_ {w : World} {R : Nat} {x : Crt} (h : CrtAt w R x) (j : Nat) : w.frozen? ⟨R, j, none⟩ = false := by unfold CrtAt at h; simp [World.frozen?, h]
theorem CrtAt.lt {w : World} {R : Nat} {x : Crt} (h : CrtAt w R x) : R < w.heap.size := (Array.getElem?_eq_some_iff.1 h).1
theorem CrtAt.below {B R : Nat} {w w' : World} {x : Crt} (h : CrtAt w R x) (hb : Below B w w') (hg : R < B) : CrtAt w' R x := (hb.block R hg).trans h
def Crt.clear2 (x : Crt) : Crt := { x with gl := 0, gs := 0, ge := .nil, ix := .nil, nu := .nil }
def Crt.clear3 (x : Crt) : Crt := { x with cl := 0, cw := .nil, wo := .nil }
def Crt.clear4 (x : Crt) : Crt := { x with cl := 0, cw := .nil, wo := .nil, ro := .nil }
theorem row_set {w : World} {R : Nat} {cs : Array Value} {t : TypeId} {fr : Nat × Nat} (h : w.heap[R]? = some (.cells cs t fr)) (j : Nat) (v : Value) : (w.setCell ⟨R, j, none⟩ v).heap[R]? = some (.cells (cs.setIfInBounds j v) t fr) := by
  simp [World.setCell, Array.getElem?_modify, h]
set_option maxRecDepth 100000 in
set_option maxHeartbeats 4000000 in
theorem ckClear2_any (x : Crt) (R : Nat) (w : World) (h : CrtAt w R x) :
    Calls Tryz.prog 21 #[.pointer (some ⟨R, 0, none⟩)] w fun e w' => e = .returned (.tuple #[]) ∧ CrtAt w' R x.clear2 ∧ Below R w w' := by
  have c1 := h.cell 1
  have z1 := h.free_ 1
  rw [show x.cells[1]? = some (.int .i64 x.gl) from rfl] at c1
  have c2 := h.cell 2
  have z2 := h.free_ 2
  rw [show x.cells[2]? = some (.int .i64 x.gs) from rfl] at c2
  have c3 := h.cell 3
  have z3 := h.free_ 3
  rw [show x.cells[3]? = some x.ge.v from rfl] at c3
  have c15 := h.cell 15
  have z15 := h.free_ 15
  rw [show x.cells[15]? = some x.ix.v from rfl] at c15
  have c14 := h.cell 14
  have z14 := h.free_ 14
  rw [show x.cells[14]? = some x.nu.v from rfl] at c14
  have H := hide h
  clear h
  go_enter Tryz.func21, Tryz.ntmps21
  go_wp2
  go_end0
  exact ⟨rfl, (row_set (row_set (row_set (row_set (row_set H.out 1 (.int .i64 0)) 2 (.int .i64 0)) 3 (.slice none 0 0)) 15 (.slice none 0 0)) 14 (.slice none 0 0)), (Below.setCell (Below.setCell (Below.setCell (Below.setCell (Below.setCell (Below.refl R w) (p := ⟨R, 1, none⟩) (Nat.le_refl _) (.int .i64 0)) (p := ⟨R, 2, none⟩) (Nat.le_refl _) (.int .i64 0)) (p := ⟨R, 3, none⟩) (Nat.le_refl _) (.slice none 0 0)) (p := ⟨R, 15, none⟩) (Nat.le_refl _) (.slice none 0 0)) (p := ⟨R, 14, none⟩) (Nat.le_refl _) (.slice none 0 0))⟩
set_option maxRecDepth 100000 in
set_option maxHeartbeats 4000000 in
theorem ckClear3_any (x : Crt) (R : Nat) (w : World) (h : CrtAt w R x) :
    Calls Tryz.prog 23 #[.pointer (some ⟨R, 0, none⟩)] w fun e w' => e = .returned (.tuple #[]) ∧ CrtAt w' R x.clear3 ∧ Below R w w' := by
  have c4 := h.cell 4
  have z4 := h.free_ 4
  rw [show x.cells[4]? = some (.int .i64 x.cl) from rfl] at c4
  have c5 := h.cell 5
  have z5 := h.free_ 5
  rw [show x.cells[5]? = some x.cw.v from rfl] at c5
  have c16 := h.cell 16
  have z16 := h.free_ 16
  rw [show x.cells[16]? = some x.wo.v from rfl] at c16
  have H := hide h
  clear h
  go_enter Tryz.func23, Tryz.ntmps23
  go_wp2
  go_end0
  exact ⟨rfl, (row_set (row_set (row_set H.out 4 (.int .i64 0)) 5 (.slice none 0 0)) 16 (.slice none 0 0)), (Below.setCell (Below.setCell (Below.setCell (Below.refl R w) (p := ⟨R, 4, none⟩) (Nat.le_refl _) (.int .i64 0)) (p := ⟨R, 5, none⟩) (Nat.le_refl _) (.slice none 0 0)) (p := ⟨R, 16, none⟩) (Nat.le_refl _) (.slice none 0 0))⟩
set_option maxRecDepth 100000 in
set_option maxHeartbeats 4000000 in
theorem ckClear4_any (x : Crt) (R : Nat) (w : World) (h : CrtAt w R x) :
    Calls Tryz.prog 25 #[.pointer (some ⟨R, 0, none⟩)] w fun e w' => e = .returned (.tuple #[]) ∧ CrtAt w' R x.clear4 ∧ Below R w w' := by
  have c4 := h.cell 4
  have z4 := h.free_ 4
  rw [show x.cells[4]? = some (.int .i64 x.cl) from rfl] at c4
  have c5 := h.cell 5
  have z5 := h.free_ 5
  rw [show x.cells[5]? = some x.cw.v from rfl] at c5
  have c16 := h.cell 16
  have z16 := h.free_ 16
  rw [show x.cells[16]? = some x.wo.v from rfl] at c16
  have c17 := h.cell 17
  have z17 := h.free_ 17
  rw [show x.cells[17]? = some x.ro.v from rfl] at c17
  have H := hide h
  clear h
  go_enter Tryz.func25, Tryz.ntmps25
  go_wp2
  go_end0
  exact ⟨rfl, (row_set (row_set (row_set (row_set H.out 4 (.int .i64 0)) 5 (.slice none 0 0)) 16 (.slice none 0 0)) 17 (.slice none 0 0)), (Below.setCell (Below.setCell (Below.setCell (Below.setCell (Below.refl R w) (p := ⟨R, 4, none⟩) (Nat.le_refl _) (.int .i64 0)) (p := ⟨R, 5, none⟩) (Nat.le_refl _) (.slice none 0 0)) (p := ⟨R, 16, none⟩) (Nat.le_refl _) (.slice none 0 0)) (p := ⟨R, 17, none⟩) (Nat.le_refl _) (.slice none 0 0))⟩
end Go.Proofs.YtldgjljecbohoaaGreatDoor

/- grooveref23.Great; grooveref59.Great: a certificate that is not great is small. -/
set_option linter.unusedVariables false
namespace Go.Proofs.YtldgjljecbohoaaGreatDoor
open Go.RowKit Go.Shelf
def gr23 (S : Int) (n : Nat) : Bool := (decide (6 < S) && decide (S ≤ 64)) || (decide (30 < n) && decide (n ≤ 1024)) || decide (1027 < n)
set_option maxRecDepth 100000 in
set_option maxHeartbeats 4000000 in
theorem great23_any (L S : Int) (n c : Nat) (A : Option Addr) (w : World) :
    Calls Tryz.prog 8 #[.agg #[.int .i64 L, .int .i64 S, .slice A n c]] w fun e w' => e = .returned (.bool (gr23 S n)) ∧ Below w.heap.size w w' := by
  have hA : Below w.heap.size w (w.alloc (.cells #[.int .i64 L, .int .i64 S, .slice A n c] 24)) := (Below.refl _ w).alloc (Nat.le_refl _) _
  have hb : (w.alloc (.cells #[.int .i64 L, .int .i64 S, .slice A n c] 24)).heap[w.heap.size]? = some (.cells #[.int .i64 L, .int .i64 S, .slice A n c] 24 (0, 0)) := heap_alloc_new w _
  have c1 : (w.alloc (.cells #[.int .i64 L, .int .i64 S, .slice A n c] 24)).cell? ⟨w.heap.size, 1, none⟩ = some (.int .i64 S) := (cell_of_row _ _ 1 _ 24 (0, 0) hb).trans rfl
  have c2 : (w.alloc (.cells #[.int .i64 L, .int .i64 S, .slice A n c] 24)).cell? ⟨w.heap.size, 2, none⟩ = some (.slice A n c) := (cell_of_row _ _ 2 _ 24 (0, 0) hb).trans rfl
  unfold gr23
  clear hb
  have e1 : ∀ m : Nat, decide ((m : Int) < (n : Int)) = decide (m < n) := fun m => by simp
  obtain ⟨a, ha⟩ : ∃ a, decide (6 < S) = a := ⟨_, rfl⟩
  obtain ⟨b, hb⟩ : ∃ b, decide (S ≤ 64) = b := ⟨_, rfl⟩
  obtain ⟨d, hd⟩ : ∃ d, decide (30 < n) = d := ⟨_, rfl⟩
  obtain ⟨f, hf⟩ : ∃ f, decide (n ≤ 1024) = f := ⟨_, rfl⟩
  obtain ⟨g, hg⟩ : ∃ g, decide (1027 < n) = g := ⟨_, rfl⟩
  have hd' : decide ((30 : Int) < (n : Int)) = d := (e1 30).trans hd
  have hg' : decide ((1027 : Int) < (n : Int)) = g := (e1 1027).trans hg
  have hf' : decide ((n : Int) ≤ 1024) = f := by rw [← hf]; exact decide_eq_decide.2 (by omega)
  rw [ha, hb, hd, hf, hg]
  clear e1
  cases a <;> cases b <;> cases d <;> cases f <;> cases g <;> (
    go_enter Tryz.func8, Tryz.ntmps8
    go_wp2
    go_ret
    exact ⟨rfl, hA⟩)
end Go.Proofs.YtldgjljecbohoaaGreatDoor

/- grooveref59.Great: a certificate that is not great is small (printed by wip/mk_grt.py). -/
set_option linter.unusedVariables false
namespace Go.Proofs.YtldgjljecbohoaaGreatDoor
open Go.RowKit Go.Shelf
/-- rows whose items' lengths are known -/
def LenR (w : World) (A : Option Addr) (ls : List Nat) : Prop := 0 < ls.length → ∃ b o, A = some ⟨b, o, none⟩ ∧ b < w.heap.size ∧ ∀ k (hk : k < ls.length), ∃ D c, w.cell? ⟨b, o + k, none⟩ = some (.slice D ls[k] c)
def LenM (w : World) (A : Option Addr) (ms : List ByteArray) : Prop := 0 < ms.length → ∃ b o, A = some ⟨b, o, none⟩ ∧ b < w.heap.size ∧ ∀ k (hk : k < ms.length), w.cell? ⟨b, o + k * 2 + 1, none⟩ = some (.string ms[k])
theorem LenR.below {w w' : World} {A : Option Addr} {ls : List Nat} (h : LenR w A ls) (hB : Below w.heap.size w w') : LenR w' A ls := by
  intro h0
  obtain ⟨b, o, h1, h2, h3⟩ := h h0
  exact ⟨b, o, h1, Nat.lt_of_lt_of_le h2 hB.size, fun k hk => by obtain ⟨D, c, h4⟩ := h3 k hk; exact ⟨D, c, (hB.cell (p := ⟨b, o + k, none⟩) h2).trans h4⟩⟩
theorem LenM.below {w w' : World} {A : Option Addr} {ms : List ByteArray} (h : LenM w A ms) (hB : Below w.heap.size w w') : LenM w' A ms := by
  intro h0
  obtain ⟨b, o, h1, h2, h3⟩ := h h0
  exact ⟨b, o, h1, Nat.lt_of_lt_of_le h2 hB.size, fun k hk => (hB.cell (p := ⟨b, o + k * 2 + 1, none⟩) h2).trans (h3 k hk)⟩
/-- how the certificate's rows lie -/
structure CrtL (w : World) (x : Crt) (rl : List Nat) (xs : List ByteArray) (ml : List Nat) (ms : List ByteArray) (ws : List ByteArray) (rs : List Nat) (ts : List Nat) : Prop where
  n_pr : x.pr.n = rl.length
  r_pr : LenR w x.pr.A rl
  b_pr : rl.length ≤ 9223372036854775807
  n_cw : x.cw.n = xs.length
  r_cw : RowT w x.cw.A xs
  b_cw : xs.length ≤ 9223372036854775807
  n_mn : x.mn.n = ml.length
  r_mn : LenR w x.mn.A ml
  b_mn : ml.length ≤ 9223372036854775807
  n_nu : x.nu.n = ms.length
  r_nu : LenM w x.nu.A ms
  b_nu : ms.length ≤ 9223372036854775807
  n_wo : x.wo.n = ws.length
  r_wo : RowT w x.wo.A ws
  b_wo : ws.length ≤ 9223372036854775807
  n_ro : x.ro.n = rs.length
  r_ro : LenR w x.ro.A rs
  b_ro : rs.length ≤ 9223372036854775807
  n_ta : x.ta.n = ts.length
  r_ta : LenR w x.ta.A ts
  b_ta : ts.length ≤ 9223372036854775807
  b_pw : x.pw.n ≤ 9223372036854775807
  b_ix : x.ix.n ≤ 9223372036854775807
structure CrtM (x : Crt) (rl : List Nat) (xs : List ByteArray) (ml : List Nat) (ms : List ByteArray) (ws : List ByteArray) (rs : List Nat) (ts : List Nat) : Prop where
  g1 : gr23 x.gs x.ge.n = false
  g2 : gr23 x.ps x.pe.n = false
  pw : x.pw.n ≤ 8
  ix : x.ix.n ≤ 10
  l_pr : rl.length ≤ 8
  i_pr : ∀ j (hj : j < rl.length), rl[j] ≤ 16
  l_cw : xs.length ≤ 8
  i_cw : ∀ j (hj : j < xs.length), xs[j].size ≤ 8
  l_mn : ml.length ≤ 5
  i_mn : ∀ j (hj : j < ml.length), ml[j] ≤ 4
  l_nu : ms.length ≤ 6
  i_nu : ∀ j (hj : j < ms.length), ms[j].size ≤ 8
  l_wo : ws.length ≤ 40
  i_wo : ∀ j (hj : j < ws.length), ws[j].size ≤ 40
  l_ro : rs.length ≤ 24
  i_ro : ∀ j (hj : j < rs.length), rs[j] ≤ 40
  l_ta : ts.length ≤ 12
  i_ta : ∀ j (hj : j < ts.length), ts[j] ≤ 60
set_option maxRecDepth 100000 in
set_option maxHeartbeats 8000000 in
theorem great59_any (x : Crt) (rl : List Nat) (xs : List ByteArray) (ml : List Nat) (ms : List ByteArray) (ws : List ByteArray) (rs : List Nat) (ts : List Nat) (w : World) (hL : CrtL w x rl xs ml ms ws rs ts) :
    Calls Tryz.prog 4 #[.agg x.cells] w fun e w' => ∃ r, e = .returned (.bool r) ∧ (r = false → CrtM x rl xs ml ms ws rs ts) ∧ Below w.heap.size w w' := by
  obtain ⟨kd, gl, gs, ⟨gA, gn, gc⟩, cl, ⟨cwA, cwN, cwC⟩, mz, ⟨mnA, mnN, mnC⟩, pl, ps, ⟨pA, pn, pc⟩, ⟨pwA, pwn, pwC⟩, pi, ⟨prA, prN, prC⟩, ⟨nuA, nuN, nuC⟩, ⟨ixA, ixn, ixC⟩, ⟨woA, woN, woC⟩, ⟨roA, roN, roC⟩, ⟨taA, taN, taC⟩⟩ := x
  obtain ⟨npr, rpr, bpr, ncw, rcw, bcw, nmn, rmn, bmn, nnu, rnu, bnu, nwo, rwo, bwo, nro, rro, bro, nta, rta, bta, bpw, bix⟩ := hL
  dsimp only at npr rpr ncw rcw nmn rmn nnu rnu nwo rwo nro rro nta rta bpw bix
  subst npr ncw nmn nnu nwo nro nta
  generalize hCX : Crt.cells _ = CX
  have hA : Below w.heap.size w (w.alloc (.cells CX 38)) := (Below.refl _ w).alloc (Nat.le_refl _) _
  have hb : (w.alloc (.cells CX 38)).heap[w.heap.size]? = some (.cells CX 38 (0, 0)) := heap_alloc_new w _
  have HG := hide (fun (L S : Int) (n c : Nat) (A : Option Addr) W => great23_any L S n c A W)
  have v1 : CX[1]? = some (.int .i64 gl) := by rw [← hCX]; rfl
  have v2 : CX[2]? = some (.int .i64 gs) := by rw [← hCX]; rfl
  have v3 : CX[3]? = some (.slice gA gn gc) := by rw [← hCX]; rfl
  have v5 : CX[5]? = some (.slice cwA xs.length cwC) := by rw [← hCX]; rfl
  have v7 : CX[7]? = some (.slice mnA ml.length mnC) := by rw [← hCX]; rfl
  have v8 : CX[8]? = some (.int .i64 pl) := by rw [← hCX]; rfl
  have v9 : CX[9]? = some (.int .i64 ps) := by rw [← hCX]; rfl
  have v10 : CX[10]? = some (.slice pA pn pc) := by rw [← hCX]; rfl
  have v11 : CX[11]? = some (.slice pwA pwn pwC) := by rw [← hCX]; rfl
  have v13 : CX[13]? = some (.slice prA rl.length prC) := by rw [← hCX]; rfl
  have v14 : CX[14]? = some (.slice nuA ms.length nuC) := by rw [← hCX]; rfl
  have v15 : CX[15]? = some (.slice ixA ixn ixC) := by rw [← hCX]; rfl
  have v16 : CX[16]? = some (.slice woA ws.length woC) := by rw [← hCX]; rfl
  have v17 : CX[17]? = some (.slice roA rs.length roC) := by rw [← hCX]; rfl
  have v18 : CX[18]? = some (.slice taA ts.length taC) := by rw [← hCX]; rfl
  have d1 : (w.alloc (.cells CX 38)).cell? ⟨w.heap.size, 1, none⟩ = some (.int .i64 gl) := (cell_of_row _ _ 1 _ 38 (0, 0) hb).trans v1
  have d2 : (w.alloc (.cells CX 38)).cell? ⟨w.heap.size, 2, none⟩ = some (.int .i64 gs) := (cell_of_row _ _ 2 _ 38 (0, 0) hb).trans v2
  have d3 : (w.alloc (.cells CX 38)).cell? ⟨w.heap.size, 3, none⟩ = some (.slice gA gn gc) := (cell_of_row _ _ 3 _ 38 (0, 0) hb).trans v3
  clear hCX
  have Rpr := hide (fun W (h : Below (w.alloc (.cells CX 38)).heap.size (w.alloc (.cells CX 38)) W) => (rpr.below hA).below h)
  have Rcw := hide (fun W (h : Below (w.alloc (.cells CX 38)).heap.size (w.alloc (.cells CX 38)) W) => (rcw.below hA).below h)
  have Rmn := hide (fun W (h : Below (w.alloc (.cells CX 38)).heap.size (w.alloc (.cells CX 38)) W) => (rmn.below hA).below h)
  have Rnu := hide (fun W (h : Below (w.alloc (.cells CX 38)).heap.size (w.alloc (.cells CX 38)) W) => (rnu.below hA).below h)
  have Rwo := hide (fun W (h : Below (w.alloc (.cells CX 38)).heap.size (w.alloc (.cells CX 38)) W) => (rwo.below hA).below h)
  have Rro := hide (fun W (h : Below (w.alloc (.cells CX 38)).heap.size (w.alloc (.cells CX 38)) W) => (rro.below hA).below h)
  have Rta := hide (fun W (h : Below (w.alloc (.cells CX 38)).heap.size (w.alloc (.cells CX 38)) W) => (rta.below hA).below h)
  clear rpr rcw rmn rnu rwo rro rta
  go_enter Tryz.func4, Tryz.ntmps4
  go_wp2_with fail
  generalize (w.alloc (.cells CX 38)) = W0 at hA hb d1 d2 d3 Rpr Rcw Rmn Rnu Rwo Rro Rta ⊢
  obtain ⟨Z, hZ⟩ : ∃ Z, w.heap.size = Z := ⟨_, rfl⟩
  rw [hZ] at hb d1 d2 d3 ⊢
  have hZl : Z < W0.heap.size := (Array.getElem?_eq_some_iff.1 hb).1
  have HC := hide (fun W (h : Below W0.heap.size W0 W) => show W.heap[Z]? = some (.cells CX 38 (0, 0)) from (h.block Z hZl).trans hb)
  have HA := hide hA
  have HZ := hide hZ
  clear hA hb hZl hZ d1 d2 d3
  refine (HG.out _ _ _ _ _ _).mono ?_
  rintro e W1 ⟨rfl, hB1⟩
  have e8 := (cell_of_row W1 Z 8 _ 38 (0, 0) (HC.out W1 hB1)).trans v8
  have e9 := (cell_of_row W1 Z 9 _ 38 (0, 0) (HC.out W1 hB1)).trans v9
  have e10 := (cell_of_row W1 Z 10 _ 38 (0, 0) (HC.out W1 hB1)).trans v10
  obtain ⟨q1, hq1⟩ : ∃ q1, gr23 gs gn = q1 := ⟨_, rfl⟩
  rw [hq1]
  have HB1 := hide hB1
  clear hB1
  cases q1
  · skip
    go_wp2_with fail
    refine (HG.out _ _ _ _ _ _).mono ?_
    rintro e W2 ⟨rfl, hB2⟩
    obtain ⟨q2, hq2⟩ : ∃ q2, gr23 ps pn = q2 := ⟨_, rfl⟩
    rw [hq2]
    have HB2 := hide (HB1.out.trans (hB2.mono HB1.out.size))
    have HEnd := hide (show Below w.heap.size w W2 from HA.out.trans (HB2.out.mono HA.out.size))
    have hb2 := HC.out W2 HB2.out
    clear e8 e9 e10 hB2
    have f11 := (cell_of_row W2 Z 11 _ 38 (0, 0) hb2).trans v11
    have f13 := (cell_of_row W2 Z 13 _ 38 (0, 0) hb2).trans v13
    have f5 := (cell_of_row W2 Z 5 _ 38 (0, 0) hb2).trans v5
    have f7 := (cell_of_row W2 Z 7 _ 38 (0, 0) hb2).trans v7
    have f14 := (cell_of_row W2 Z 14 _ 38 (0, 0) hb2).trans v14
    have f15 := (cell_of_row W2 Z 15 _ 38 (0, 0) hb2).trans v15
    have f16 := (cell_of_row W2 Z 16 _ 38 (0, 0) hb2).trans v16
    have f17 := (cell_of_row W2 Z 17 _ 38 (0, 0) hb2).trans v17
    have f18 := (cell_of_row W2 Z 18 _ 38 (0, 0) hb2).trans v18
    clear hb2
    have HQ1 := hide hq1
    have HQ2 := hide hq2
    clear hq1 hq2
    cases q2
    · skip
      by_cases hpw : 8 < pwn
      · have tpw : decide ((8 : Int) < ((pwn : Nat) : Int)) = true := decide_eq_true (by omega)
        go_wp2
        go_ret
        exact ⟨true, rfl, (fun h => Bool.noConfusion h), HEnd.out⟩
      have tpw : decide ((8 : Int) < ((pwn : Nat) : Int)) = false := decide_eq_false (by omega)
      have Kpw := hide (Nat.le_of_not_lt hpw)
      clear hpw
      by_cases hpr : 8 < rl.length
      · have tpr : decide ((8 : Int) < ((rl.length : Nat) : Int)) = true := decide_eq_true (by omega)
        go_wp2
        go_ret
        exact ⟨true, rfl, (fun h => Bool.noConfusion h), HEnd.out⟩
      have tpr : decide ((8 : Int) < ((rl.length : Nat) : Int)) = false := decide_eq_false (by omega)
      have Kpr := hide (Nat.le_of_not_lt hpr)
      clear hpr
      by_cases hcw : 8 < xs.length
      · have tcw : decide ((8 : Int) < ((xs.length : Nat) : Int)) = true := decide_eq_true (by omega)
        go_wp2
        go_ret
        exact ⟨true, rfl, (fun h => Bool.noConfusion h), HEnd.out⟩
      have tcw : decide ((8 : Int) < ((xs.length : Nat) : Int)) = false := decide_eq_false (by omega)
      have Kcw := hide (Nat.le_of_not_lt hcw)
      clear hcw
      by_cases hmn : 5 < ml.length
      · have tmn : decide ((5 : Int) < ((ml.length : Nat) : Int)) = true := decide_eq_true (by omega)
        go_wp2
        go_ret
        exact ⟨true, rfl, (fun h => Bool.noConfusion h), HEnd.out⟩
      have tmn : decide ((5 : Int) < ((ml.length : Nat) : Int)) = false := decide_eq_false (by omega)
      have Kmn := hide (Nat.le_of_not_lt hmn)
      clear hmn
      by_cases hnu : 6 < ms.length
      · have tnu : decide ((6 : Int) < ((ms.length : Nat) : Int)) = true := decide_eq_true (by omega)
        go_wp2
        go_ret
        exact ⟨true, rfl, (fun h => Bool.noConfusion h), HEnd.out⟩
      have tnu : decide ((6 : Int) < ((ms.length : Nat) : Int)) = false := decide_eq_false (by omega)
      have Knu := hide (Nat.le_of_not_lt hnu)
      clear hnu
      by_cases hix : 10 < ixn
      · have tix : decide ((10 : Int) < ((ixn : Nat) : Int)) = true := decide_eq_true (by omega)
        go_wp2
        go_ret
        exact ⟨true, rfl, (fun h => Bool.noConfusion h), HEnd.out⟩
      have tix : decide ((10 : Int) < ((ixn : Nat) : Int)) = false := decide_eq_false (by omega)
      have Kix := hide (Nat.le_of_not_lt hix)
      clear hix
      by_cases hwo : 40 < ws.length
      · have two : decide ((40 : Int) < ((ws.length : Nat) : Int)) = true := decide_eq_true (by omega)
        go_wp2
        go_ret
        exact ⟨true, rfl, (fun h => Bool.noConfusion h), HEnd.out⟩
      have two : decide ((40 : Int) < ((ws.length : Nat) : Int)) = false := decide_eq_false (by omega)
      have Kwo := hide (Nat.le_of_not_lt hwo)
      clear hwo
      by_cases hro : 24 < rs.length
      · have tro : decide ((24 : Int) < ((rs.length : Nat) : Int)) = true := decide_eq_true (by omega)
        go_wp2
        go_ret
        exact ⟨true, rfl, (fun h => Bool.noConfusion h), HEnd.out⟩
      have tro : decide ((24 : Int) < ((rs.length : Nat) : Int)) = false := decide_eq_false (by omega)
      have Kro := hide (Nat.le_of_not_lt hro)
      clear hro
      by_cases hta : 12 < ts.length
      · have tta : decide ((12 : Int) < ((ts.length : Nat) : Int)) = true := decide_eq_true (by omega)
        go_wp2
        go_ret
        exact ⟨true, rfl, (fun h => Bool.noConfusion h), HEnd.out⟩
      have tta : decide ((12 : Int) < ((ts.length : Nat) : Int)) = false := decide_eq_false (by omega)
      have Kta := hide (Nat.le_of_not_lt hta)
      clear hta
      go_wp2_with fail
      go_loopw [3] (fun iv wr => ∃ k : Nat, iv = .int .i64 k ∧ k ≤ rl.length ∧ Hid (∀ j (hj : j < rl.length), j < k → rl[j] ≤ 16) ∧ W2 = wr) (fun iv _ => rl.length - (intOf iv).toNat)
      case atStart => exact ⟨0, rfl, Nat.zero_le _, hide fun j _ h => absurd h (by omega), rfl⟩
      case round =>
        obtain ⟨k, rfl, hk, hK, rfl⟩ := hrel
        by_cases hlt : k < rl.length
        · obtain ⟨b0, o0, hAe, ha, hcell⟩ := Rpr.out _ HB2.out (by omega)
          rw [hAe] at f13
          obtain ⟨D, c, c0⟩ := hcell k hlt
          obtain ⟨m, hm⟩ : ∃ m, m = rl[k] := ⟨_, rfl⟩
          rw [← hm] at c0
          have HM := hide hm
          have hk0 : (0 : Int) ≤ (k : Int) := by omega
          have hk1 : (k : Int) < (rl.length : Int) := by omega
          clear hcell hm hAe ha
          by_cases hB : 16 < m
          · have hd : decide ((16 : Int) < ((m : Nat) : Int)) = true := decide_eq_true (by omega)
            go_wp2
            go_ret
            exact ⟨true, rfl, (fun h => Bool.noConfusion h), HEnd.out⟩
          · have hd : decide ((16 : Int) < ((m : Nat) : Int)) = false := decide_eq_false (by omega)
            have HNB := hide hB
            clear hB
            go_wp2
            go_roundw
            case rel =>
              refine ⟨k + 1, by go_num, hlt, hide fun j hj hjk => ?_, by first | exact trivial | rfl⟩
              rcases Nat.lt_or_ge j k with h | h
              · exact hK.out j hj h
              · obtain rfl : j = k := by omega
                have h1 := HM.out
                have h2 := HNB.out
                rw [h1] at h2
                exact Nat.le_of_not_lt h2
            case measure => simp [intOf]; omega
        · obtain he : k = rl.length := by omega
          subst he
          have KLpr := hide (show ∀ j (hj : j < rl.length), rl[j] ≤ 16 from fun j hj => hK.out j hj hj)
          clear hK hk hlt
          go_wp2
          go_loopw [4] (fun iv wr => ∃ k : Nat, iv = .int .i64 k ∧ k ≤ xs.length ∧ Hid (∀ j (hj : j < xs.length), j < k → xs[j].size ≤ 8) ∧ W2 = wr) (fun iv _ => xs.length - (intOf iv).toNat)
          case atStart => exact ⟨0, rfl, Nat.zero_le _, hide fun j _ h => absurd h (by omega), rfl⟩
          case round =>
            obtain ⟨k, rfl, hk, hK, rfl⟩ := hrel
            by_cases hlt : k < xs.length
            · obtain ⟨b0, o0, hAe, ha, hcell⟩ := Rcw.out _ HB2.out (by omega)
              rw [hAe] at f5
              have c0 := hcell k hlt
              obtain ⟨sv, hm⟩ : ∃ sv, sv = xs[k] := ⟨_, rfl⟩
              rw [← hm] at c0
              have HM := hide hm
              have hk0 : (0 : Int) ≤ (k : Int) := by omega
              have hk1 : (k : Int) < (xs.length : Int) := by omega
              clear hcell hm hAe ha
              by_cases hB : 8 < sv.size
              · have hd : decide ((8 : Int) < ((sv.size : Nat) : Int)) = true := decide_eq_true (by omega)
                go_wp2
                go_ret
                exact ⟨true, rfl, (fun h => Bool.noConfusion h), HEnd.out⟩
              · have hd : decide ((8 : Int) < ((sv.size : Nat) : Int)) = false := decide_eq_false (by omega)
                have HNB := hide hB
                clear hB
                go_wp2
                go_roundw
                case rel =>
                  refine ⟨k + 1, by go_num, hlt, hide fun j hj hjk => ?_, by first | exact trivial | rfl⟩
                  rcases Nat.lt_or_ge j k with h | h
                  · exact hK.out j hj h
                  · obtain rfl : j = k := by omega
                    have h1 := HM.out
                    have h2 := HNB.out
                    rw [h1] at h2
                    exact Nat.le_of_not_lt h2
                case measure => simp [intOf]; omega
            · obtain he : k = xs.length := by omega
              subst he
              have KLcw := hide (show ∀ j (hj : j < xs.length), xs[j].size ≤ 8 from fun j hj => hK.out j hj hj)
              clear hK hk hlt
              go_wp2
              go_loopw [5] (fun iv wr => ∃ k : Nat, iv = .int .i64 k ∧ k ≤ ml.length ∧ Hid (∀ j (hj : j < ml.length), j < k → ml[j] ≤ 4) ∧ W2 = wr) (fun iv _ => ml.length - (intOf iv).toNat)
              case atStart => exact ⟨0, rfl, Nat.zero_le _, hide fun j _ h => absurd h (by omega), rfl⟩
              case round =>
                obtain ⟨k, rfl, hk, hK, rfl⟩ := hrel
                by_cases hlt : k < ml.length
                · obtain ⟨b0, o0, hAe, ha, hcell⟩ := Rmn.out _ HB2.out (by omega)
                  rw [hAe] at f7
                  obtain ⟨D, c, c0⟩ := hcell k hlt
                  obtain ⟨m, hm⟩ : ∃ m, m = ml[k] := ⟨_, rfl⟩
                  rw [← hm] at c0
                  have HM := hide hm
                  have hk0 : (0 : Int) ≤ (k : Int) := by omega
                  have hk1 : (k : Int) < (ml.length : Int) := by omega
                  clear hcell hm hAe ha
                  by_cases hB : 4 < m
                  · have hd : decide ((4 : Int) < ((m : Nat) : Int)) = true := decide_eq_true (by omega)
                    go_wp2
                    go_ret
                    exact ⟨true, rfl, (fun h => Bool.noConfusion h), HEnd.out⟩
                  · have hd : decide ((4 : Int) < ((m : Nat) : Int)) = false := decide_eq_false (by omega)
                    have HNB := hide hB
                    clear hB
                    go_wp2
                    go_roundw
                    case rel =>
                      refine ⟨k + 1, by go_num, hlt, hide fun j hj hjk => ?_, by first | exact trivial | rfl⟩
                      rcases Nat.lt_or_ge j k with h | h
                      · exact hK.out j hj h
                      · obtain rfl : j = k := by omega
                        have h1 := HM.out
                        have h2 := HNB.out
                        rw [h1] at h2
                        exact Nat.le_of_not_lt h2
                    case measure => simp [intOf]; omega
                · obtain he : k = ml.length := by omega
                  subst he
                  have KLmn := hide (show ∀ j (hj : j < ml.length), ml[j] ≤ 4 from fun j hj => hK.out j hj hj)
                  clear hK hk hlt
                  go_wp2
                  go_loopw [6] (fun iv wr => ∃ k : Nat, iv = .int .i64 k ∧ k ≤ ms.length ∧ Hid (∀ j (hj : j < ms.length), j < k → ms[j].size ≤ 8) ∧ W2 = wr) (fun iv _ => ms.length - (intOf iv).toNat)
                  case atStart => exact ⟨0, rfl, Nat.zero_le _, hide fun j _ h => absurd h (by omega), rfl⟩
                  case round =>
                    obtain ⟨k, rfl, hk, hK, rfl⟩ := hrel
                    by_cases hlt : k < ms.length
                    · obtain ⟨b0, o0, hAe, ha, hcell⟩ := Rnu.out _ HB2.out (by omega)
                      rw [hAe] at f14
                      have c0 := hcell k hlt
                      obtain ⟨sv, hm⟩ : ∃ sv, sv = ms[k] := ⟨_, rfl⟩
                      rw [← hm] at c0
                      have HM := hide hm
                      have hk0 : (0 : Int) ≤ (k : Int) := by omega
                      have hk1 : (k : Int) < (ms.length : Int) := by omega
                      clear hcell hm hAe ha
                      by_cases hB : 8 < sv.size
                      · have hd : decide ((8 : Int) < ((sv.size : Nat) : Int)) = true := decide_eq_true (by omega)
                        go_wp2
                        go_ret
                        exact ⟨true, rfl, (fun h => Bool.noConfusion h), HEnd.out⟩
                      · have hd : decide ((8 : Int) < ((sv.size : Nat) : Int)) = false := decide_eq_false (by omega)
                        have HNB := hide hB
                        clear hB
                        go_wp2
                        go_roundw
                        case rel =>
                          refine ⟨k + 1, by go_num, hlt, hide fun j hj hjk => ?_, by first | exact trivial | rfl⟩
                          rcases Nat.lt_or_ge j k with h | h
                          · exact hK.out j hj h
                          · obtain rfl : j = k := by omega
                            have h1 := HM.out
                            have h2 := HNB.out
                            rw [h1] at h2
                            exact Nat.le_of_not_lt h2
                        case measure => simp [intOf]; omega
                    · obtain he : k = ms.length := by omega
                      subst he
                      have KLnu := hide (show ∀ j (hj : j < ms.length), ms[j].size ≤ 8 from fun j hj => hK.out j hj hj)
                      clear hK hk hlt
                      go_wp2
                      go_loopw [7] (fun iv wr => ∃ k : Nat, iv = .int .i64 k ∧ k ≤ ws.length ∧ Hid (∀ j (hj : j < ws.length), j < k → ws[j].size ≤ 40) ∧ W2 = wr) (fun iv _ => ws.length - (intOf iv).toNat)
                      case atStart => exact ⟨0, rfl, Nat.zero_le _, hide fun j _ h => absurd h (by omega), rfl⟩
                      case round =>
                        obtain ⟨k, rfl, hk, hK, rfl⟩ := hrel
                        by_cases hlt : k < ws.length
                        · obtain ⟨b0, o0, hAe, ha, hcell⟩ := Rwo.out _ HB2.out (by omega)
                          rw [hAe] at f16
                          have c0 := hcell k hlt
                          obtain ⟨sv, hm⟩ : ∃ sv, sv = ws[k] := ⟨_, rfl⟩
                          rw [← hm] at c0
                          have HM := hide hm
                          have hk0 : (0 : Int) ≤ (k : Int) := by omega
                          have hk1 : (k : Int) < (ws.length : Int) := by omega
                          clear hcell hm hAe ha
                          by_cases hB : 40 < sv.size
                          · have hd : decide ((40 : Int) < ((sv.size : Nat) : Int)) = true := decide_eq_true (by omega)
                            go_wp2
                            go_ret
                            exact ⟨true, rfl, (fun h => Bool.noConfusion h), HEnd.out⟩
                          · have hd : decide ((40 : Int) < ((sv.size : Nat) : Int)) = false := decide_eq_false (by omega)
                            have HNB := hide hB
                            clear hB
                            go_wp2
                            go_roundw
                            case rel =>
                              refine ⟨k + 1, by go_num, hlt, hide fun j hj hjk => ?_, by first | exact trivial | rfl⟩
                              rcases Nat.lt_or_ge j k with h | h
                              · exact hK.out j hj h
                              · obtain rfl : j = k := by omega
                                have h1 := HM.out
                                have h2 := HNB.out
                                rw [h1] at h2
                                exact Nat.le_of_not_lt h2
                            case measure => simp [intOf]; omega
                        · obtain he : k = ws.length := by omega
                          subst he
                          have KLwo := hide (show ∀ j (hj : j < ws.length), ws[j].size ≤ 40 from fun j hj => hK.out j hj hj)
                          clear hK hk hlt
                          go_wp2
                          go_loopw [8] (fun iv wr => ∃ k : Nat, iv = .int .i64 k ∧ k ≤ rs.length ∧ Hid (∀ j (hj : j < rs.length), j < k → rs[j] ≤ 40) ∧ W2 = wr) (fun iv _ => rs.length - (intOf iv).toNat)
                          case atStart => exact ⟨0, rfl, Nat.zero_le _, hide fun j _ h => absurd h (by omega), rfl⟩
                          case round =>
                            obtain ⟨k, rfl, hk, hK, rfl⟩ := hrel
                            by_cases hlt : k < rs.length
                            · obtain ⟨b0, o0, hAe, ha, hcell⟩ := Rro.out _ HB2.out (by omega)
                              rw [hAe] at f17
                              obtain ⟨D, c, c0⟩ := hcell k hlt
                              obtain ⟨m, hm⟩ : ∃ m, m = rs[k] := ⟨_, rfl⟩
                              rw [← hm] at c0
                              have HM := hide hm
                              have hk0 : (0 : Int) ≤ (k : Int) := by omega
                              have hk1 : (k : Int) < (rs.length : Int) := by omega
                              clear hcell hm hAe ha
                              by_cases hB : 40 < m
                              · have hd : decide ((40 : Int) < ((m : Nat) : Int)) = true := decide_eq_true (by omega)
                                go_wp2
                                go_ret
                                exact ⟨true, rfl, (fun h => Bool.noConfusion h), HEnd.out⟩
                              · have hd : decide ((40 : Int) < ((m : Nat) : Int)) = false := decide_eq_false (by omega)
                                have HNB := hide hB
                                clear hB
                                go_wp2
                                go_roundw
                                case rel =>
                                  refine ⟨k + 1, by go_num, hlt, hide fun j hj hjk => ?_, by first | exact trivial | rfl⟩
                                  rcases Nat.lt_or_ge j k with h | h
                                  · exact hK.out j hj h
                                  · obtain rfl : j = k := by omega
                                    have h1 := HM.out
                                    have h2 := HNB.out
                                    rw [h1] at h2
                                    exact Nat.le_of_not_lt h2
                                case measure => simp [intOf]; omega
                            · obtain he : k = rs.length := by omega
                              subst he
                              have KLro := hide (show ∀ j (hj : j < rs.length), rs[j] ≤ 40 from fun j hj => hK.out j hj hj)
                              clear hK hk hlt
                              go_wp2
                              go_loopw [9] (fun iv wr => ∃ k : Nat, iv = .int .i64 k ∧ k ≤ ts.length ∧ Hid (∀ j (hj : j < ts.length), j < k → ts[j] ≤ 60) ∧ W2 = wr) (fun iv _ => ts.length - (intOf iv).toNat)
                              case atStart => exact ⟨0, rfl, Nat.zero_le _, hide fun j _ h => absurd h (by omega), rfl⟩
                              case round =>
                                obtain ⟨k, rfl, hk, hK, rfl⟩ := hrel
                                by_cases hlt : k < ts.length
                                · obtain ⟨b0, o0, hAe, ha, hcell⟩ := Rta.out _ HB2.out (by omega)
                                  rw [hAe] at f18
                                  obtain ⟨D, c, c0⟩ := hcell k hlt
                                  obtain ⟨m, hm⟩ : ∃ m, m = ts[k] := ⟨_, rfl⟩
                                  rw [← hm] at c0
                                  have HM := hide hm
                                  have hk0 : (0 : Int) ≤ (k : Int) := by omega
                                  have hk1 : (k : Int) < (ts.length : Int) := by omega
                                  clear hcell hm hAe ha
                                  by_cases hB : 60 < m
                                  · have hd : decide ((60 : Int) < ((m : Nat) : Int)) = true := decide_eq_true (by omega)
                                    go_wp2
                                    go_ret
                                    exact ⟨true, rfl, (fun h => Bool.noConfusion h), HEnd.out⟩
                                  · have hd : decide ((60 : Int) < ((m : Nat) : Int)) = false := decide_eq_false (by omega)
                                    have HNB := hide hB
                                    clear hB
                                    go_wp2
                                    go_roundw
                                    case rel =>
                                      refine ⟨k + 1, by go_num, hlt, hide fun j hj hjk => ?_, by first | exact trivial | rfl⟩
                                      rcases Nat.lt_or_ge j k with h | h
                                      · exact hK.out j hj h
                                      · obtain rfl : j = k := by omega
                                        have h1 := HM.out
                                        have h2 := HNB.out
                                        rw [h1] at h2
                                        exact Nat.le_of_not_lt h2
                                    case measure => simp [intOf]; omega
                                · obtain he : k = ts.length := by omega
                                  subst he
                                  have KLta := hide (show ∀ j (hj : j < ts.length), ts[j] ≤ 60 from fun j hj => hK.out j hj hj)
                                  clear hK hk hlt
                                  go_wp2
                                  go_ret
                                  exact ⟨false, rfl, fun _ => ⟨HQ1.out, HQ2.out, Kpw.out, Kix.out, Kpr.out, KLpr.out, Kcw.out, KLcw.out, Kmn.out, KLmn.out, Knu.out, KLnu.out, Kwo.out, KLwo.out, Kro.out, KLro.out, Kta.out, KLta.out⟩, HEnd.out⟩
    · skip
      go_wp2
      go_ret
      exact ⟨true, rfl, (fun h => Bool.noConfusion h), HEnd.out⟩
  · skip
    go_wp2
    go_ret
    exact ⟨true, rfl, (fun h => Bool.noConfusion h), HA.out.trans (HB1.out.mono HA.out.size)⟩
end Go.Proofs.YtldgjljecbohoaaGreatDoor
