import Derived.Test.YtbnpjoiojhnimaaGreatDoorG22
import Derived.Test.YtbnpjoiojhnimaaGreatDoorG40
set_option linter.unusedSimpArgs false
set_option linter.unusedVariables false
/- checker.Check at any kind: its contract (printed by wip/mk_chg.py). -/
namespace Go.Proofs.YtbnpjoiojhnimaaGreatDoor
open Go.RowKit Go.Shelf
theorem exec_load_row {P : Program} {w : World} {o : Oper} {a : Act} (ty : TypeId) (x : Operand) (ho : o.op = .load ty x) (g : Nat) (hx : a.eval x = .pointer (some ⟨g, 0, none⟩)) (t : TypeId) (cs : Array Value) (fr : Nat × Nat) (d : TypeDesc) (hg : w.heap[g]? = some (.cells cs t fr))
  (hu : P.underlying ty = some d) (hd : (match d with | .struct _ | .array _ _ => true | _ => false) = true) (hi : (P.info? ty).map (·.size) = some cs.size) :
  (execOp a.eval o).run P w = .ok (.value (.agg cs)) w := by
 unfold execOp
 simp only [ho, hx, Instr.loadAt, Instr.sureAddr, Sem.run_bind, Sem.run_pure, Result.andThen_ok, run_loadVar_row w g t ty cs fr d hg hu hd hi]
def IsQ (Q : Bool → Prop) (e : Ending) : Prop := ∃ b, e = .returned (.bool b) ∧ Q b
def ChkR (nn : Bool) (Q : Bool → Prop) (e : Ending) : Prop := ∃ r : Int, e = .returned (.int .i64 r) ∧ (r = 0 ∧ nn = true ∧ Q true ∨ r = 23 ∧ (nn = false ∨ Q false))
set_option maxRecDepth 100000 in
set_option maxHeartbeats 8000000 in
theorem ckCheck_g (x y : Crt) (kd : Int) (Fc Fp : Nat) (Q : Bool → Prop) (w : World) (hk : x.kind = kd) (hk1 : 1 ≤ kd) (hk2 : kd < 11)
  (hcc : ∀ (args : Array Value) (W : World), (callFunc Fc args).run Tryz.prog W = .ok (.enter Fc args) W) (hcp : ∀ (args : Array Value) (W : World), (callFunc Fp args).run Tryz.prog W = .ok (.enter Fp args) W)
  (hv0 : kindsV[kd.toNat * 2]? = some (.func (.func Fc) #[] #[])) (hv1 : kindsV[kd.toNat * 2 + 1]? = some (.func (.func Fp) #[] #[]))
  (hC : ∀ R W, CrtAt W R x → Calls Tryz.prog Fc #[.pointer (some ⟨R, 0, none⟩)] W fun e w' => e = .returned (.tuple #[]) ∧ CrtAt w' R y ∧ Below R W w')
  (hp : ∀ W, Below w.heap.size w W → Calls Tryz.prog Fp #[.agg x.cells] W fun e w' => IsQ Q e ∧ Below W.heap.size W w') :
  Calls Tryz.prog 6 #[.agg x.cells] w fun e w' => ChkR (y.none kd) Q e ∧ Below w.heap.size w w' := by
 have HS := hide (show ∀ W, Calls Tryz.prog 14 #[.agg y.cells, .agg #[.int .i64 kd, .int .i64 0, .int .i64 0, .slice none 0 0, .int .i64 0, .slice none 0 0, .int .i64 0, .slice none 0 0, .int .i64 0, .int .i64 0, .slice none 0 0, .slice none 0 0, .int .i64 0, .slice none 0 0, .slice none 0 0, .slice none 0 0, .slice none 0 0, .slice none 0 0, .slice none 0 0]] W (fun e w' => e = .returned (.bool (y.none kd)) ∧ Below W.heap.size W w') from fun W => same_nil y kd W)
 have HP := hide hp
 have HC := hide hC
 have HK := hide ckKinds_any
 have hCrt := hide (show ∀ W R, CrtAt W R x → W.cell? ⟨R, 0, none⟩ = some (.int .i64 kd) from fun W R h => by rw [h.cell 0, ← hk]; rfl)
 have hsx : x.cells.size = 19 := rfl
 have hsy : y.cells.size = 19 := rfl
 have h1x : x.cells.all (·.oneCell') = true := by kernel_rfl
 have hA : Below w.heap.size w (w.alloc (.cells x.cells 38)) := (Below.refl _ w).alloc (Nat.le_refl _) _
 have hN : CrtAt (w.alloc (.cells x.cells 38)) w.heap.size x := heap_alloc_new w _
 have HD := hide (show ∀ W R, CrtAt W R x = (W.heap[R]? = some (.cells x.cells 38 (0, 0))) from fun _ _ => rfl)
 have HDy := hide (show ∀ W R, CrtAt W R y = (W.heap[R]? = some (.cells y.cells 38 (0, 0))) from fun _ _ => rfl)
 obtain ⟨nn, hnn⟩ : ∃ nn, y.none kd = nn := ⟨_, rfl⟩
 rw [hnn] at HS ⊢
 obtain ⟨CY, hCY⟩ : ∃ CY, y.cells = CY := ⟨_, rfl⟩
 rw [hCY] at HS HDy hsy
 obtain ⟨CX, hCX⟩ : ∃ CX, x.cells = CX := ⟨_, rfl⟩
 rw [hCX] at HP HD hsx h1x hA hN ⊢
 have g0 := hCrt.out _ _ hN
 obtain ⟨Z, hZ⟩ : ∃ Z, w.heap.size = Z := ⟨_, rfl⟩
 have hsz : (w.alloc (.cells CX 38)).heap.size = Z + 1 := by rw [← hZ]; simp
 rw [hZ] at hN g0
 have HZ := hide hZ
 clear hp hk hnn hCY hCX hZ hC
 go_enter Tryz.func6, Tryz.ntmps6
 go_wp2_with fail
 try rw [HZ.out]
 generalize w.alloc (.cells CX 38) = W0 at hN g0 hsz hA ⊢
 (with_reducible refine (HK.out W0).mono ?_)
 rintro e w1 ⟨rfl, hB1⟩
 have hN1 : CrtAt w1 Z x := hN.below hB1 (by omega)
 have g1 := hCrt.out _ _ hN1
 have HA1 := hide (hA.trans (hB1.mono hA.size))
 have hz1 : Z + 1 ≤ w1.heap.size := by have := hB1.size; omega
 clear hN g0 hA hB1 hsz HK
 obtain ⟨KB, hK⟩ : ∃ KB, w1.heap.size = KB := ⟨_, rfl⟩
 have hKN : (w1.alloc (.cells #[.nilFunc, .nilFunc, .nilFunc, .nilFunc, .nilFunc, .nilFunc, .nilFunc, .nilFunc, .nilFunc, .nilFunc, .nilFunc, .nilFunc, .nilFunc, .nilFunc, .nilFunc, .nilFunc, .nilFunc, .nilFunc, .nilFunc, .nilFunc, .nilFunc, .nilFunc] 59)).heap[w1.heap.size]? = some (.cells #[.nilFunc, .nilFunc, .nilFunc, .nilFunc, .nilFunc, .nilFunc, .nilFunc, .nilFunc, .nilFunc, .nilFunc, .nilFunc, .nilFunc, .nilFunc, .nilFunc, .nilFunc, .nilFunc, .nilFunc, .nilFunc, .nilFunc, .nilFunc, .nilFunc, .nilFunc] 59 (0, 0)) := heap_alloc_new w1 _
 obtain ⟨W2, hW2⟩ : ∃ W2, (w1.alloc (.cells #[.nilFunc, .nilFunc, .nilFunc, .nilFunc, .nilFunc, .nilFunc, .nilFunc, .nilFunc, .nilFunc, .nilFunc, .nilFunc, .nilFunc, .nilFunc, .nilFunc, .nilFunc, .nilFunc, .nilFunc, .nilFunc, .nilFunc, .nilFunc, .nilFunc, .nilFunc] 59)).setRow w1.heap.size kindsV = W2 := ⟨_, rfl⟩
 have hK2 : W2.heap[KB]? = some (.cells kindsV 59 (0, 0)) := by rw [← hW2, ← hK]; exact setRow_heap _ _ _ _ 59 (0, 0) hKN
 have hB2 : Below KB w1 W2 := by rw [← hW2, ← hK]; exact below_setRow ((Below.refl _ w1).alloc (Nat.le_refl _) _) (Nat.le_refl _) _
 have hs2 : W2.heap.size = KB + 1 := by rw [← hW2, setRow_size, ← hK]; simp
 have hN2 : CrtAt W2 Z x := hN1.below hB2 (by omega)
 have g2 := hCrt.out _ _ hN2
 have hYN : (W2.alloc (.cells #[.int .i64 0, .int .i64 0, .int .i64 0, .slice none 0 0, .int .i64 0, .slice none 0 0, .int .i64 0, .slice none 0 0, .int .i64 0, .int .i64 0, .slice none 0 0, .slice none 0 0, .int .i64 0, .slice none 0 0, .slice none 0 0, .slice none 0 0, .slice none 0 0, .slice none 0 0, .slice none 0 0] 38)).heap[KB + 1]? = some (.cells #[.int .i64 0, .int .i64 0, .int .i64 0, .slice none 0 0, .int .i64 0, .slice none 0 0, .int .i64 0, .slice none 0 0, .int .i64 0, .int .i64 0, .slice none 0 0, .slice none 0 0, .int .i64 0, .slice none 0 0, .slice none 0 0, .slice none 0 0, .slice none 0 0, .slice none 0 0, .slice none 0 0] 38 (0, 0)) := by rw [← hs2]; exact heap_alloc_new W2 _
 obtain ⟨W3, hW3⟩ : ∃ W3, (W2.alloc (.cells #[.int .i64 0, .int .i64 0, .int .i64 0, .slice none 0 0, .int .i64 0, .slice none 0 0, .int .i64 0, .slice none 0 0, .int .i64 0, .int .i64 0, .slice none 0 0, .slice none 0 0, .int .i64 0, .slice none 0 0, .slice none 0 0, .slice none 0 0, .slice none 0 0, .slice none 0 0, .slice none 0 0] 38)).setRow (KB + 1) CX = W3 := ⟨_, rfl⟩
 have hY3 : W3.heap[KB + 1]? = some (.cells CX 38 (0, 0)) := by rw [← hW3]; exact setRow_heap _ _ _ _ 38 (0, 0) hYN
 have hB3 : Below (KB + 1) W2 W3 := by rw [← hW3]; exact below_setRow ((Below.refl _ W2).alloc (Nat.le_of_eq hs2.symm) _) (Nat.le_refl _) _
 have hK3 := (hB3.block KB (by omega)).trans hK2
 have k8 : W3.cell? ⟨KB, kd.toNat * 2, none⟩ = some (.func (.func Fc) #[] #[]) := by rw [cell_of_row _ _ (kd.toNat * 2) _ 59 (0, 0) hK3]; exact hv0
 have k9 : W3.cell? ⟨KB, kd.toNat * 2 + 1, none⟩ = some (.func (.func Fp) #[] #[]) := by rw [cell_of_row _ _ (kd.toNat * 2 + 1) _ 59 (0, 0) hK3]; exact hv1
 have hN3 : CrtAt W3 Z x := hN2.below hB3 (by omega)
 have g3 := hCrt.out _ _ hN3
 have hZ2 : W2.heap[Z]? = some (.cells CX 38 (0, 0)) := by rw [← HD.out]; exact hN2
 have hYx : CrtAt W3 (KB + 1) x := by rw [HD.out]; exact hY3
 have HA3 := hide (show Below w.heap.size w W3 from (HA1.out.trans (hB2.mono (by have := HZ.out; omega))).trans (hB3.mono (by have := HZ.out; omega)))
 have HW2 := hide hW2
 have HW3 := hide hW3
 have hKe := hide hK
 have hss := hide (show W3.heap.size = KB + 2 by rw [← hW3, setRow_size]; simp; omega)
 clear hW2 hW3 hB2 hB3 hK3 hN1 g1 hY3
 have i0 : (0 : Int) ≤ kd := by omega
 have i1 : kd < 11 := hk2
 have t0 : decide (kd < 1) = false := by simp; omega
 have t1 : decide (11 ≤ kd) = false := by simp; omega
 subst hK
 go_wp2_with (first
  | (refine wpList_store_rowTo (by rfl) 59 _ _ (by rfl) (by rfl) w1.heap.size kindsV (by rfl) (by rfl) 59 #[.nilFunc, .nilFunc, .nilFunc, .nilFunc, .nilFunc, .nilFunc, .nilFunc, .nilFunc, .nilFunc, .nilFunc, .nilFunc, .nilFunc, .nilFunc, .nilFunc, .nilFunc, .nilFunc, .nilFunc, .nilFunc, .nilFunc, .nilFunc, .nilFunc, .nilFunc] hKN (by kernel_rfl) (by rfl) (by kernel_rfl) ?_; rw [HW2.out])
  | (refine wpList_load_row (by rfl) 38 _ (by rfl) Z (by rfl) 38 CX (0, 0) _ hZ2 Tryz.underlying38 (by rfl) (by rw [hsx]; exact certSize) ?_)
  | (refine wpList_store_rowTo (by rfl) 38 _ _ (by rfl) (by rfl) (w1.heap.size + 1) CX (by rfl) (by rfl) 38 #[.int .i64 0, .int .i64 0, .int .i64 0, .slice none 0 0, .int .i64 0, .slice none 0 0, .int .i64 0, .slice none 0 0, .int .i64 0, .int .i64 0, .slice none 0 0, .slice none 0 0, .int .i64 0, .slice none 0 0, .slice none 0 0, .slice none 0 0, .slice none 0 0, .slice none 0 0, .slice none 0 0] hYN (by rw [hsx]; exact certSize) (by rw [hsx]; rfl) h1x ?_; rw [HW3.out]))
 (with_reducible refine (HC.out _ _ hYx).mono ?_)
 rintro en w4 ⟨rfl, hYy, hB4⟩
 go_wp2_with fail
 have hBz4 := hide (fun b (h : b < w1.heap.size + 1) => hB4.block b h)
 have hZ4 : w4.heap[Z]? = some (.cells CX 38 (0, 0)) := by rw [← HD.out]; exact hN3.below hB4 (by omega)
 have hY4 : w4.heap[w1.heap.size + 1]? = some (.cells CY 38 (0, 0)) := by rw [← HDy.out]; exact hYy
 have g4 := hCrt.out _ _ (hN3.below hB4 (by omega))
 have k4 : w4.cell? ⟨w1.heap.size, kd.toNat * 2 + 1, none⟩ = some (.func (.func Fp) #[] #[]) := (hB4.cell (p := ⟨w1.heap.size, kd.toNat * 2 + 1, none⟩) (Nat.lt_succ_self _)).trans k9
 have HA4 := hide (show Below w.heap.size w w4.drew from (HA3.out.trans (hB4.mono (by have := HZ.out; omega))).drew)
 have hs4 : w1.heap.size + 1 < w4.heap.size := by have := hB4.size; have := hss.out; omega
 obtain ⟨KB, hK⟩ : ∃ KB, w1.heap.size = KB := ⟨_, rfl⟩
 rw [hK] at hY4 k4 hs4 ⊢
 have hds : w4.drew.heap.size = w4.heap.size := rfl
 have hSb := hide (show ∀ W1, Below w4.drew.heap.size w4.drew W1 → (fun W' : World => W'.heap[Z]? = some (.cells CX 38 (0, 0)) ∧ W'.heap[KB + 1]? = some (.cells CY 38 (0, 0)) ∧ W'.cell? ⟨Z, 0, none⟩ = some (.int .i64 kd) ∧ W'.cell? ⟨KB, kd.toNat * 2 + 1, none⟩ = some (.func (.func Fp) #[] #[])) W1 from fun W1 hW1 => ⟨(hW1.block Z (by omega)).trans hZ4, (hW1.block (KB + 1) hs4).trans hY4, (hW1.cell (p := ⟨Z, 0, none⟩) (show Z < w4.heap.size by omega)).trans g4, (hW1.cell (p := ⟨KB, kd.toNat * 2 + 1, none⟩) (show KB < w4.heap.size by omega)).trans k4⟩)
 clear hds hZ4 hY4 g4 k4 hYy hB4 hN2 hN3 g2 g3 k8 k9 hZ2 hYx HC HW2 HW3 hK2 hKN hYN hs2 hK
 refine wp_region_noPanic ?_
 refine wp_region_held_drew (S := fun W' => W'.heap[Z]? = some (.cells CX 38 (0, 0)) ∧ W'.heap[KB + 1]? = some (.cells CY 38 (0, 0)) ∧ W'.cell? ⟨Z, 0, none⟩ = some (.int .i64 kd) ∧ W'.cell? ⟨KB, kd.toNat * 2 + 1, none⟩ = some (.func (.func Fp) #[] #[])) (by kernel_rfl) (hSb.out _ (Below.refl _ _)) (fun hHeld => ?_)
 cases nn
 ·skip
  refine wpAnyH_take (i := 0) (oi := _) (v := (.agg CY)) rfl (by kernel_rfl) (by kernel_rfl) (by kernel_rfl) (fun _ _ _ h => h) (Or.inl ⟨by rfl, ?hy0b⟩) (by assumption) ?rest0b
  case hy0b => (intro w hSw; exact exec_load_row 38 _ (by rfl) (KB + 1) (by rfl) 38 CY (0, 0) _ hSw.2.1 Tryz.underlying38 (by rfl) (by rw [hsy]; exact certSize))
  (try simp only [List.getElem_toArray, List.getElem_cons_zero, Act.put, List.setIfInBounds_toArray, List.set_cons_zero, List.set_cons_succ])
  refine wpAnyH_take (i := 1) (oi := _) (v := ?v1b) rfl (by kernel_rfl) (by kernel_rfl) (by kernel_rfl) (fun _ _ _ h => h) (Or.inl ⟨by rfl, ?hy1b⟩) (by assumption) ?rest1b
  case hy1b => (intro w hSw; (try dsimp only at hSw); go_simp; (try with_reducible rfl))
  (try simp only [List.getElem_toArray, List.getElem_cons_zero, List.getElem_cons_succ, Act.put, List.setIfInBounds_toArray, List.set_cons_zero, List.set_cons_succ])
  refine wpAnyH_take (i := 2) (oi := _) (v := ?v2b) rfl (by kernel_rfl) (by kernel_rfl) (by kernel_rfl) (fun _ _ _ h => h) (Or.inl ⟨by rfl, ?hy2b⟩) (by assumption) ?rest2b
  case hy2b => (intro w hSw; (try dsimp only at hSw); go_simp; (try with_reducible rfl))
  (try simp only [List.getElem_toArray, List.getElem_cons_zero, List.getElem_cons_succ, Act.put, List.setIfInBounds_toArray, List.set_cons_zero, List.set_cons_succ])
  refine wpAnyH_take (i := 3) (oi := _) (v := ?v3b) rfl (by kernel_rfl) (by kernel_rfl) (by kernel_rfl) (fun _ _ _ h => h) (Or.inl ⟨by rfl, ?hy3b⟩) (by assumption) ?rest3b
  case hy3b => (intro w hSw; (try dsimp only at hSw); go_simp; (try with_reducible rfl))
  (try simp only [List.getElem_toArray, List.getElem_cons_zero, List.getElem_cons_succ, Act.put, List.setIfInBounds_toArray, List.set_cons_zero, List.set_cons_succ])
  refine wpAnyH_ready (rs := [4]) (by kernel_rfl) (by simp) ?_
  refine AllReadyH.cons (o := _) rfl (fun K hK => ?_) AllReadyH.nil
  go_simp
  (with_reducible refine (HS.out _).mono ?_)
  rintro en w5 ⟨rfl, hB5⟩
  have hS5 := hide (hSb.out w5 hB5)
  have HB5 := hide (HA4.out.trans (hB5.mono HA4.out.size))
  have hB45 := hide hB5
  (try go_wp2_with fail)
  refine hK.out _ _ ?_ (fun hHeld => ?_)
  ·exact hS5.out
  clear hK K
  (try simp only [List.getElem_toArray, List.getElem_cons_zero, List.getElem_cons_succ, Act.put, List.setIfInBounds_toArray, List.set_cons_zero, List.set_cons_succ])
  refine wpAnyH_take (i := 5) (oi := _) (v := ?v5b) rfl (by kernel_rfl) (by kernel_rfl) (by kernel_rfl) (fun _ _ _ h => h) (Or.inl ⟨by rfl, ?hy5b⟩) (by assumption) ?rest5b
  case hy5b => (intro w hSw; (try dsimp only at hSw); go_simp; (try with_reducible rfl))
  (try simp only [List.getElem_toArray, List.getElem_cons_zero, List.getElem_cons_succ, Act.put, List.setIfInBounds_toArray, List.set_cons_zero, List.set_cons_succ])
  refine wpAnyH_take (i := 6) (oi := _) (v := ?v6b) rfl (by kernel_rfl) (by kernel_rfl) (by kernel_rfl) (fun _ _ _ h => h) (Or.inl ⟨by rfl, ?hy6b⟩) (by assumption) ?rest6b
  case hy6b => (intro w hSw; (try dsimp only at hSw); go_simp; (try with_reducible rfl))
  (try simp only [List.getElem_toArray, List.getElem_cons_zero, List.getElem_cons_succ, Act.put, List.setIfInBounds_toArray, List.set_cons_zero, List.set_cons_succ])
  refine wpAnyH_take (i := 7) (oi := _) (v := undef) rfl (by kernel_rfl) (by kernel_rfl) (by kernel_rfl) (fun _ _ _ h => h) (Or.inr ⟨by kernel_rfl, rfl⟩) (by assumption) ?rest7
  (try simp only [List.getElem_toArray, List.getElem_cons_zero, List.getElem_cons_succ, Act.put, List.setIfInBounds_toArray, List.set_cons_zero, List.set_cons_succ])
  refine wpAnyH_take (i := 8) (oi := _) (v := undef) rfl (by kernel_rfl) (by kernel_rfl) (by kernel_rfl) (fun _ _ _ h => h) (Or.inr ⟨by kernel_rfl, rfl⟩) (by assumption) ?rest8
  (try simp only [List.getElem_toArray, List.getElem_cons_zero, List.getElem_cons_succ, Act.put, List.setIfInBounds_toArray, List.set_cons_zero, List.set_cons_succ])
  refine wpAnyH_take (i := 9) (oi := _) (v := undef) rfl (by kernel_rfl) (by kernel_rfl) (by kernel_rfl) (fun _ _ _ h => h) (Or.inr ⟨by kernel_rfl, rfl⟩) (by assumption) ?rest9
  (try simp only [List.getElem_toArray, List.getElem_cons_zero, List.getElem_cons_succ, Act.put, List.setIfInBounds_toArray, List.set_cons_zero, List.set_cons_succ])
  refine wpAnyH_take (i := 10) (oi := _) (v := undef) rfl (by kernel_rfl) (by kernel_rfl) (by kernel_rfl) (fun _ _ _ h => h) (Or.inr ⟨by kernel_rfl, rfl⟩) (by assumption) ?rest10
  (try simp only [List.getElem_toArray, List.getElem_cons_zero, List.getElem_cons_succ, Act.put, List.setIfInBounds_toArray, List.set_cons_zero, List.set_cons_succ])
  refine wpAnyH_take (i := 11) (oi := _) (v := undef) rfl (by kernel_rfl) (by kernel_rfl) (by kernel_rfl) (fun _ _ _ h => h) (Or.inr ⟨by kernel_rfl, rfl⟩) (by assumption) ?rest11
  (try simp only [List.getElem_toArray, List.getElem_cons_zero, List.getElem_cons_succ, Act.put, List.setIfInBounds_toArray, List.set_cons_zero, List.set_cons_succ])
  refine wpAnyH_take (i := 12) (oi := _) (v := undef) rfl (by kernel_rfl) (by kernel_rfl) (by kernel_rfl) (fun _ _ _ h => h) (Or.inr ⟨by kernel_rfl, rfl⟩) (by assumption) ?rest12
  (try simp only [List.getElem_toArray, List.getElem_cons_zero, List.getElem_cons_succ, Act.put, List.setIfInBounds_toArray, List.set_cons_zero, List.set_cons_succ])
  refine wpAnyH_take (i := 13) (oi := _) (v := undef) rfl (by kernel_rfl) (by kernel_rfl) (by kernel_rfl) (fun _ _ _ h => h) (Or.inr ⟨by kernel_rfl, rfl⟩) (by assumption) ?rest13
  (try simp only [List.getElem_toArray, List.getElem_cons_zero, List.getElem_cons_succ, Act.put, List.setIfInBounds_toArray, List.set_cons_zero, List.set_cons_succ])
  refine wpAnyH_take (i := 14) (oi := _) (v := undef) rfl (by kernel_rfl) (by kernel_rfl) (by kernel_rfl) (fun _ _ _ h => h) (Or.inr ⟨by kernel_rfl, rfl⟩) (by assumption) ?rest14
  (try simp only [List.getElem_toArray, List.getElem_cons_zero, List.getElem_cons_succ, Act.put, List.setIfInBounds_toArray, List.set_cons_zero, List.set_cons_succ])
  refine wpAnyH_take (i := 15) (oi := _) (v := ?v15b) rfl (by kernel_rfl) (by kernel_rfl) (by kernel_rfl) (fun _ _ _ h => h) (Or.inl ⟨by rfl, ?hy15b⟩) (by assumption) ?rest15b
  case hy15b => (intro w hSw; (try dsimp only at hSw); go_simp; (try with_reducible rfl))
  (try simp only [List.getElem_toArray, List.getElem_cons_zero, List.getElem_cons_succ, Act.put, List.setIfInBounds_toArray, List.set_cons_zero, List.set_cons_succ])
  refine wpAnyH_done (by kernel_rfl) ?_ _
  refine NoPanic.normal ?_
  go_wp2
  go_ret
  exact ⟨⟨23, rfl, .inr ⟨rfl, .inl rfl⟩⟩, HB5.out⟩
 ·skip
  refine wpAnyH_take (i := 0) (oi := _) (v := (.agg CY)) rfl (by kernel_rfl) (by kernel_rfl) (by kernel_rfl) (fun _ _ _ h => h) (Or.inl ⟨by rfl, ?hy0a⟩) (by assumption) ?rest0a
  case hy0a => (intro w hSw; exact exec_load_row 38 _ (by rfl) (KB + 1) (by rfl) 38 CY (0, 0) _ hSw.2.1 Tryz.underlying38 (by rfl) (by rw [hsy]; exact certSize))
  (try simp only [List.getElem_toArray, List.getElem_cons_zero, Act.put, List.setIfInBounds_toArray, List.set_cons_zero, List.set_cons_succ])
  refine wpAnyH_take (i := 1) (oi := _) (v := ?v1a) rfl (by kernel_rfl) (by kernel_rfl) (by kernel_rfl) (fun _ _ _ h => h) (Or.inl ⟨by rfl, ?hy1a⟩) (by assumption) ?rest1a
  case hy1a => (intro w hSw; (try dsimp only at hSw); go_simp; (try with_reducible rfl))
  (try simp only [List.getElem_toArray, List.getElem_cons_zero, List.getElem_cons_succ, Act.put, List.setIfInBounds_toArray, List.set_cons_zero, List.set_cons_succ])
  refine wpAnyH_take (i := 2) (oi := _) (v := ?v2a) rfl (by kernel_rfl) (by kernel_rfl) (by kernel_rfl) (fun _ _ _ h => h) (Or.inl ⟨by rfl, ?hy2a⟩) (by assumption) ?rest2a
  case hy2a => (intro w hSw; (try dsimp only at hSw); go_simp; (try with_reducible rfl))
  (try simp only [List.getElem_toArray, List.getElem_cons_zero, List.getElem_cons_succ, Act.put, List.setIfInBounds_toArray, List.set_cons_zero, List.set_cons_succ])
  refine wpAnyH_take (i := 3) (oi := _) (v := ?v3a) rfl (by kernel_rfl) (by kernel_rfl) (by kernel_rfl) (fun _ _ _ h => h) (Or.inl ⟨by rfl, ?hy3a⟩) (by assumption) ?rest3a
  case hy3a => (intro w hSw; (try dsimp only at hSw); go_simp; (try with_reducible rfl))
  (try simp only [List.getElem_toArray, List.getElem_cons_zero, List.getElem_cons_succ, Act.put, List.setIfInBounds_toArray, List.set_cons_zero, List.set_cons_succ])
  refine wpAnyH_ready (rs := [4]) (by kernel_rfl) (by simp) ?_
  refine AllReadyH.cons (o := _) rfl (fun K hK => ?_) AllReadyH.nil
  go_simp
  (with_reducible refine (HS.out _).mono ?_)
  rintro en w5 ⟨rfl, hB5⟩
  have hS5 := hide (hSb.out w5 hB5)
  have HB5 := hide (HA4.out.trans (hB5.mono HA4.out.size))
  have hB45 := hide hB5
  (try go_wp2_with fail)
  refine hK.out _ _ ?_ (fun hHeld => ?_)
  ·exact hS5.out
  clear hK K
  (try simp only [List.getElem_toArray, List.getElem_cons_zero, List.getElem_cons_succ, Act.put, List.setIfInBounds_toArray, List.set_cons_zero, List.set_cons_succ])
  refine wpAnyH_take (i := 5) (oi := _) (v := ?v5a) rfl (by kernel_rfl) (by kernel_rfl) (by kernel_rfl) (fun _ _ _ h => h) (Or.inl ⟨by rfl, ?hy5a⟩) (by assumption) ?rest5a
  case hy5a => (intro w hSw; (try dsimp only at hSw); go_simp; (try with_reducible rfl))
  (try simp only [List.getElem_toArray, List.getElem_cons_zero, List.getElem_cons_succ, Act.put, List.setIfInBounds_toArray, List.set_cons_zero, List.set_cons_succ])
  refine wpAnyH_take (i := 6) (oi := _) (v := ?v6a) rfl (by kernel_rfl) (by kernel_rfl) (by kernel_rfl) (fun _ _ _ h => h) (Or.inl ⟨by rfl, ?hy6a⟩) (by assumption) ?rest6a
  case hy6a => (intro w hSw; (try dsimp only at hSw); go_simp; (try with_reducible rfl))
  (try simp only [List.getElem_toArray, List.getElem_cons_zero, List.getElem_cons_succ, Act.put, List.setIfInBounds_toArray, List.set_cons_zero, List.set_cons_succ])
  refine wpAnyH_take (i := 7) (oi := _) (v := ?v7a) rfl (by kernel_rfl) (by kernel_rfl) (by kernel_rfl) (fun _ _ _ h => h) (Or.inl ⟨by rfl, ?hy7a⟩) (by assumption) ?rest7a
  case hy7a => (intro w hSw; (try dsimp only at hSw); go_simp; (try with_reducible rfl))
  (try simp only [List.getElem_toArray, List.getElem_cons_zero, List.getElem_cons_succ, Act.put, List.setIfInBounds_toArray, List.set_cons_zero, List.set_cons_succ])
  refine wpAnyH_take (i := 8) (oi := _) (v := ?v8a) rfl (by kernel_rfl) (by kernel_rfl) (by kernel_rfl) (fun _ _ _ h => h) (Or.inl ⟨by rfl, ?hy8a⟩) (by assumption) ?rest8a
  case hy8a => (intro w hSw; (try dsimp only at hSw); go_simp; (try with_reducible rfl))
  (try simp only [List.getElem_toArray, List.getElem_cons_zero, List.getElem_cons_succ, Act.put, List.setIfInBounds_toArray, List.set_cons_zero, List.set_cons_succ])
  refine wpAnyH_take (i := 9) (oi := _) (v := ?v9a) rfl (by kernel_rfl) (by kernel_rfl) (by kernel_rfl) (fun _ _ _ h => h) (Or.inl ⟨by rfl, ?hy9a⟩) (by assumption) ?rest9a
  case hy9a => (intro w hSw; (try dsimp only at hSw); go_simp; (try with_reducible rfl))
  (try simp only [List.getElem_toArray, List.getElem_cons_zero, List.getElem_cons_succ, Act.put, List.setIfInBounds_toArray, List.set_cons_zero, List.set_cons_succ])
  refine wpAnyH_take (i := 10) (oi := _) (v := ?v10a) rfl (by kernel_rfl) (by kernel_rfl) (by kernel_rfl) (fun _ _ _ h => h) (Or.inl ⟨by rfl, ?hy10a⟩) (by assumption) ?rest10a
  case hy10a => (intro w hSw; (try dsimp only at hSw); go_simp; (try with_reducible rfl))
  (try simp only [List.getElem_toArray, List.getElem_cons_zero, List.getElem_cons_succ, Act.put, List.setIfInBounds_toArray, List.set_cons_zero, List.set_cons_succ])
  refine wpAnyH_take (i := 11) (oi := _) (v := ?v11a) rfl (by kernel_rfl) (by kernel_rfl) (by kernel_rfl) (fun _ _ _ h => h) (Or.inl ⟨by rfl, ?hy11a⟩) (by assumption) ?rest11a
  case hy11a => (intro w hSw; (try dsimp only at hSw); go_simp; (try with_reducible rfl))
  (try simp only [List.getElem_toArray, List.getElem_cons_zero, List.getElem_cons_succ, Act.put, List.setIfInBounds_toArray, List.set_cons_zero, List.set_cons_succ])
  refine wpAnyH_take (i := 12) (oi := _) (v := (.agg CX)) rfl (by kernel_rfl) (by kernel_rfl) (by kernel_rfl) (fun _ _ _ h => h) (Or.inl ⟨by rfl, ?hy12a⟩) (by assumption) ?rest12a
  case hy12a => (intro w hSw; exact exec_load_row 38 _ (by rfl) Z (by rfl) 38 CX (0, 0) _ hSw.1 Tryz.underlying38 (by rfl) (by rw [hsx]; exact certSize))
  (try simp only [List.getElem_toArray, List.getElem_cons_zero, List.getElem_cons_succ, Act.put, List.setIfInBounds_toArray, List.set_cons_zero, List.set_cons_succ])
  refine wpAnyH_ready (rs := [13]) (by kernel_rfl) (by simp) ?_
  refine AllReadyH.cons (o := _) rfl (fun K hK => ?_) AllReadyH.nil
  go_simp
  (with_reducible refine (HP.out _ HB5.out).mono ?_)
  rintro en w6 ⟨⟨pr, rfl, hQ⟩, hB6⟩
  have hS6 := hide (hSb.out w6 (hB45.out.trans (hB6.mono hB45.out.size)))
  have HB6 := hide (HB5.out.trans (hB6.mono HB5.out.size))
  (try go_wp2_with fail)
  refine hK.out _ _ ?_ (fun hHeld => ?_)
  ·exact hS6.out
  clear hK K
  (try simp only [List.getElem_toArray, List.getElem_cons_zero, List.getElem_cons_succ, Act.put, List.setIfInBounds_toArray, List.set_cons_zero, List.set_cons_succ])
  refine wpAnyH_take (i := 14) (oi := _) (v := ?v14a) rfl (by kernel_rfl) (by kernel_rfl) (by kernel_rfl) (fun _ _ _ h => h) (Or.inl ⟨by rfl, ?hy14a⟩) (by assumption) ?rest14a
  case hy14a => (intro w hSw; (try dsimp only at hSw); go_simp; (try with_reducible rfl))
  (try simp only [List.getElem_toArray, List.getElem_cons_zero, List.getElem_cons_succ, Act.put, List.setIfInBounds_toArray, List.set_cons_zero, List.set_cons_succ])
  refine wpAnyH_take (i := 15) (oi := _) (v := ?v15a) rfl (by kernel_rfl) (by kernel_rfl) (by kernel_rfl) (fun _ _ _ h => h) (Or.inl ⟨by rfl, ?hy15a⟩) (by assumption) ?rest15a
  case hy15a => (intro w hSw; (try dsimp only at hSw); go_simp; (try with_reducible rfl))
  (try simp only [List.getElem_toArray, List.getElem_cons_zero, List.getElem_cons_succ, Act.put, List.setIfInBounds_toArray, List.set_cons_zero, List.set_cons_succ])
  refine wpAnyH_done (by kernel_rfl) ?_ _
  refine NoPanic.normal ?_
  cases pr
  ·go_wp2
   go_ret
   exact ⟨⟨23, rfl, .inr ⟨rfl, .inr hQ⟩⟩, HB6.out⟩
  ·go_wp2
   go_ret
   exact ⟨⟨0, rfl, .inl ⟨rfl, rfl, hQ⟩⟩, HB6.out⟩
end Go.Proofs.YtbnpjoiojhnimaaGreatDoor
