import Derived.Test.YtbnpjoiojhnimaaGreatDoorG40
import Derived.Test.YtbnpjoiojhnimaaGreatDoorG22
import Derived.Test.YtbnpjoiojhnimaaGreatDoorG33
import Derived.Test.YtbnpjoiojhnimaaGreatDoorG41
import Derived.BigQuiet
import Derived.Test.YtbnpjoiojhnimaaGreatDoorG17
import Derived.Test.YtbnpjoiojhnimaaGreatDoorG29
import Derived.Test.YtbnpjoiojhnimaaGreatDoorG21
import Derived.Laws.CopyOwn
import Derived.Deep.RegionHeld3
set_option linter.unusedSimpArgs false
set_option linter.unusedVariables false
/- checker.rate, splitting.Verify; checker.refusal at any certificate: their contracts. -/
namespace Go.Proofs.YtbnpjoiojhnimaaGreatDoor
open Go.RowKit
set_option maxRecDepth 100000 in
set_option maxHeartbeats 2000000 in
theorem spVerify_any (L S m : Int) (es : List Edg) (A : Option Addr) (c : Nat) (D : Option Addr) (cv : Nat) (vs : List Int) (rs : List (List Spl)) (R : Option Addr) (q : Nat) (w : World) (hr : RowE w A es) (hl : vs.length ≤ 4294967296) (hv : RowI w D vs) (hR : RowR w R rs) (hok : RndS rs) :
  Calls Tryz.prog 89 #[.agg #[.int .i64 L, .int .i64 S, .slice A es.length c, .slice D vs.length cv, .int .i64 m, .slice R rs.length q]] w fun e w' => IfR (baseB L S m es vs = true) e ∧ Below w.heap.size w w' := by
 have hB0 : Below w.heap.size w (w.alloc (.cells #[.int .i64 L, .int .i64 S, .slice A es.length c, .slice D vs.length cv, .int .i64 m, .slice R rs.length q] 34)) := (Below.refl _ w).alloc (Nat.le_refl _) _
 have HF := hide (spFollow_any L S m es A c D cv vs rs R q (w.alloc (.cells #[.int .i64 L, .int .i64 S, .slice A es.length c, .slice D vs.length cv, .int .i64 m, .slice R rs.length q] 34)) (hr.below hB0) hl (hv.below hB0) (hR.below hB0) hok)
 obtain ⟨x0, x1, x2, x3, x4, x5⟩ := at6 (heap_alloc_new w (.cells #[.int .i64 L, .int .i64 S, .slice A es.length c, .slice D vs.length cv, .int .i64 m, .slice R rs.length q] 34))
 have HB0 := hide hB0
 clear hr hv hR hok hB0
 go_enter Tryz.func89, Tryz.ntmps89
 go_wp2_with fail
 (with_reducible refine HF.out.mono ?_)
 rintro e w1 ⟨⟨ga, gb, go, gn, gc, r, rfl, hP⟩, hB1⟩
 have HB1 := hide (HB0.out.trans (hB1.mono HB0.out.size))
 clear hB1 HB0 HF x0 x1 x2 x3 x4 x5
 go_wp2
 go_ret
 exact ⟨⟨r, rfl, hP⟩, HB1.out.alloc HB1.out.size _⟩
set_option maxRecDepth 100000 in
set_option maxHeartbeats 2000000 in
theorem ckRefusal_no (x : Crt) (w : World) (h : x.ix.n ≠ 1) :
  Calls Tryz.prog 39 #[.agg x.cells] w fun e w' => e = .returned (.bool false) ∧ Below w.heap.size w w' := by
 obtain ⟨CX, hCX⟩ : ∃ CX, x.cells = CX := ⟨_, rfl⟩
 have hA : Below w.heap.size w (w.alloc (.cells x.cells 38)) := (Below.refl _ w).alloc (Nat.le_refl _) _
 have hN : CrtAt (w.alloc (.cells x.cells 38)) w.heap.size x := heap_alloc_new w _
 have c15 := hN.cell 15
 rw [show x.cells[15]? = some x.ix.v from rfl] at c15
 obtain ⟨⟨wA', wn, wc⟩, hwo⟩ : ∃ s, x.ix = s := ⟨_, rfl⟩
 rw [hwo] at c15 h
 simp only [Sl.v] at c15 h
 rw [hCX] at *
 have HA := hide hA
 clear hN hA hwo
 have i1 : IntKind.i64.wrap 1 = 1 := rfl
 have e1 : ((wn : Int) = 1) = False := eq_false (by omega)
 have e1' : decide ((wn : Int) = 1) = false := decide_eq_false (by omega)
 have e1'' : ((wn : Int) == 1) = false := by simp; omega
 clear h
 go_enter Tryz.func39, Tryz.ntmps39
 go_wp2_with fail
 go_quiet (fail)
 go_wp2
 go_ret
 exact ⟨rfl, belowN HA.out _⟩
theorem ckRefusal_full (x : Crt) (ixs : List Int) (es : List Edg) (k : Nat) (nb : Nat → Bool) (mb : Nat → ByteArray) (w : World) (hgn : x.ge.n = es.length) (hnn : x.nu.n = k) (hin : x.ix.n = ixs.length)
  (hr : RowE w x.ge.A es) (hk : k ≤ 4294967296) (hP : AIs w x.nu.A k nb mb) (hI : RowI w x.ix.A ixs) (hs : ∀ i, i < k → (mb i).size ≤ 6000) :
  Calls Tryz.prog 39 #[.agg x.cells] w fun e w' => IsQ (fun b => b = true → ∃ m, ixs = [m] ∧ okR x.gl x.gs m es k nb mb = true) e ∧ Below w.heap.size w w' := by
 by_cases h1 : x.ix.n = 1
 ·obtain ⟨m, rfl⟩ : ∃ m, ixs = [m] := List.length_eq_one_iff.1 (by omega)
  obtain ⟨I, io, hA, hl, hc⟩ := hI (by simp)
  refine (ckRefusal_any x m es x.ge.A x.ge.c k x.nu.A x.nu.c I io x.ix.c nb mb w (by rw [← hgn]) (by rw [← hnn]) (by rw [← hA, ← h1]) hr hk hP hl (hc 0 (by simp)) hs).mono ?_
  rintro e w' ⟨rfl, hB⟩
  exact ⟨⟨_, rfl, fun h => ⟨m, rfl, h⟩⟩, hB⟩
 ·refine (ckRefusal_no x w h1).mono ?_
  rintro e w' ⟨rfl, hB⟩
  exact ⟨⟨_, rfl, fun h => by cases h⟩, hB⟩
def RateOk (gl gs pl : Int) (es ps : List Edg) (vs ixs : List Int) (rows : List (List Int)) : Prop := ∃ m xs, ixs = [m] ∧ rows = [xs] ∧ okG gl gs es = true ∧ setE gs xs = 0 ∧ KpR xs ps es ∧ baseB pl xs.length m ps vs = true
set_option maxRecDepth 100000 in
set_option maxHeartbeats 4000000 in
theorem ckRateP_any (x : Crt) (ixs : List Int) (es ps : List Edg) (vs : List Int) (rs : List (List Spl)) (rows : List (List Int)) (w : World)
  (hge : x.ge.n = es.length) (hpe : x.pe.n = ps.length) (hpw : x.pw.n = vs.length) (hpr : x.pr.n = rs.length) (hin : x.ix.n = ixs.length) (hro : x.ro.n = rows.length)
  (hE : RowE w x.ge.A es) (hP : RowE w x.pe.A ps) (hV : RowI w x.pw.A vs) (hR : RowR w x.pr.A rs) (hI : RowI w x.ix.A ixs) (hD : RowD w x.ro.A rows)
  (hvl : vs.length ≤ 4294967296) (hrs : RndS rs) (hrl : ∀ l ∈ rows, l.length ≤ 4294967296) (hps : es.length ≤ 4294967296) :
  Calls Tryz.prog 37 #[.agg x.cells] w fun e w' => IsQ (fun b => b = true → RateOk x.gl x.gs x.pl es ps vs ixs rows) e ∧ Below w.heap.size w w' := by
 obtain ⟨W0, hW0⟩ : ∃ W0, w.alloc (.cells x.cells 38) = W0 := ⟨_, rfl⟩
 have hA : Below w.heap.size w W0 := hW0 ▸ (Below.refl _ w).alloc (Nat.le_refl _) _
 have hN : CrtAt W0 w.heap.size x := hW0 ▸ heap_alloc_new w _
 have c1 := hN.cell 1
 have c2 := hN.cell 2
 have c3 := hN.cell 3
 have c8 := hN.cell 8
 have c9 := hN.cell 9
 have c10 := hN.cell 10
 have c11 := hN.cell 11
 have c12 := hN.cell 12
 have c13 := hN.cell 13
 have c15 := hN.cell 15
 have c17 := hN.cell 17
 rw [show x.cells[1]? = some (.int .i64 x.gl) from rfl] at c1
 rw [show x.cells[2]? = some (.int .i64 x.gs) from rfl] at c2
 rw [show x.cells[3]? = some (.slice x.ge.A x.ge.n x.ge.c) from rfl, hge] at c3
 rw [show x.cells[8]? = some (.int .i64 x.pl) from rfl] at c8
 rw [show x.cells[9]? = some (.int .i64 x.ps) from rfl] at c9
 rw [show x.cells[10]? = some (.slice x.pe.A x.pe.n x.pe.c) from rfl, hpe] at c10
 rw [show x.cells[11]? = some (.slice x.pw.A x.pw.n x.pw.c) from rfl, hpw] at c11
 rw [show x.cells[12]? = some (.int .i64 x.pi) from rfl] at c12
 rw [show x.cells[13]? = some (.slice x.pr.A x.pr.n x.pr.c) from rfl, hpr] at c13
 rw [show x.cells[15]? = some (.slice x.ix.A x.ix.n x.ix.c) from rfl, hin] at c15
 rw [show x.cells[17]? = some (.slice x.ro.A x.ro.n x.ro.c) from rfl, hro] at c17
 have HKp := hide (fun xs D d W (hW : Below w.heap.size w W) (hX : RowI W D xs) (hl : xs.length ≤ 4294967296) => grKeep_any x.gl x.gs es x.ge.A x.ge.c xs D d W (hE.below hW) hX hl)
 have HVe := hide (fun W (hW : Below w.heap.size w W) => spVerify_any x.pl x.ps x.pi ps x.pe.A x.pe.c x.pw.A x.pw.c vs rs x.pr.A x.pr.c W (hP.below hW) hvl (hV.below hW) (hR.below hW) hrs)
 have HSa := hide (fun W (hW : Below w.heap.size w W) L' S' qs G k (hG : RowE W G qs) (hl : qs.length ≤ 4294967296) => grSame_any L' S' x.pl x.ps qs ps G x.pe.A k x.pe.c W hG (hP.below hW) hl)
 have HI := hide (fun W (hW : Below w.heap.size w W) => hI.below hW)
 have HD := hide (fun W (hW : Below w.heap.size w W) => hD.below hW)
 have i1 : IntKind.i64.wrap 1 = 1 := rfl
 obtain ⟨CX, hCX⟩ : ∃ CX, x.cells = CX := ⟨_, rfl⟩
 rw [hCX] at hW0 ⊢
 have HA := hide hA
 generalize x.gl = gl at *
 generalize x.gs = gs at *
 generalize x.pl = pl at *
 generalize x.ps = pst at *
 generalize x.pi = pii at *
 generalize x.ge.A = gA at *
 generalize x.ge.c = gc at *
 generalize x.pe.A = pA at *
 generalize x.pe.c = pc at *
 generalize x.pw.A = wA at *
 generalize x.pw.c = wc at *
 generalize x.pr.A = rA at *
 generalize x.pr.c = rc at *
 generalize x.ix.A = iA at *
 generalize x.ix.c = ic at *
 generalize x.ro.A = oA at *
 generalize x.ro.c = oc at *
 clear hE hP hV hR hI hD hN hCX hge hpe hpw hpr hin hro hA
 by_cases h1 : ixs.length = 1
 ·obtain ⟨m, rfl⟩ : ∃ m, ixs = [m] := List.length_eq_one_iff.1 h1
  by_cases h2 : rows.length = 1
  ·obtain ⟨xs, rfl⟩ : ∃ xs, rows = [xs] := List.length_eq_one_iff.1 h2
   simp only [List.length_singleton] at c15 c17
   clear h1 h2
   obtain ⟨I, io, rfl, hIl, hIc⟩ := HI.out _ HA.out (by simp)
   obtain ⟨O, oo, rfl, hOl, hOc⟩ := HD.out _ HA.out (by simp)
   have d0 : W0.cell? ⟨I, io, none⟩ = some (.int .i64 m) := by have := hIc 0 (by simp); simpa using this
   obtain ⟨D, d, d1, hX⟩ := hOc 0 (by simp)
   simp only [List.getElem_cons_zero, Nat.add_zero] at d1 hX
   have hxl := hrl xs (by simp)
   have h01 : (0 : Int) < 1 := by decide
   by_cases h3 : pii = m
   ·subst h3
    have HXr := hide (fun W (h : Below W0.heap.size W0 W) => hX.below h)
    clear hIc hOc hX hrl
    go_enter Tryz.func37, Tryz.ntmps37
    go_wp2_with fail
    go_quiet (fail)
    go_wp2_with fail
    have hB1 : Below W0.heap.size W0 (W0.drewN nq).drew := (belowN (Below.refl _ _) _).drew
    generalize W0.drewN nq = Wq at hB1 ⊢
    obtain ⟨Z, hZ⟩ : ∃ Z, w.heap.size = Z := ⟨_, rfl⟩
    have HAW := hide (show ∀ W, Below W0.heap.size W0 W → Below w.heap.size w W from fun W h => HA.out.trans (h.mono HA.out.size))
    have hZl : Z < W0.heap.size := by rw [← hW0]; simp; omega
    rw [hZ] at c1 c2 c3 c8 c9 c10 c11 c12 c13 c15 c17
    have hSA := hide (show ∀ W, Below W0.heap.size W0 W → (fun W' : World => W'.cell? ⟨Z, 1, none⟩ = some (.int .i64 gl) ∧ W'.cell? ⟨Z, 2, none⟩ = some (.int .i64 gs) ∧ W'.cell? ⟨Z, 3, none⟩ = some (.slice gA es.length gc) ∧ W'.cell? ⟨Z, 17, none⟩ = some (.slice (some ⟨O, oo, none⟩) 1 oc) ∧ W'.cell? ⟨O, oo, none⟩ = some (.slice D xs.length d)) W from fun W h =>
     ⟨(h.cell (p := ⟨Z, 1, none⟩) hZl).trans c1, (h.cell (p := ⟨Z, 2, none⟩) hZl).trans c2, (h.cell (p := ⟨Z, 3, none⟩) hZl).trans c3, (h.cell (p := ⟨Z, 17, none⟩) hZl).trans c17, (h.cell (p := ⟨O, oo, none⟩) hOl).trans d1⟩)
    have HSA := hide (show ∀ W, Below W0.heap.size W0 W → W.cell? ⟨Z, 1, none⟩ = some (.int .i64 gl) ∧ W.cell? ⟨Z, 2, none⟩ = some (.int .i64 gs) ∧ W.cell? ⟨Z, 3, none⟩ = some (.slice gA es.length gc) ∧ W.cell? ⟨Z, 8, none⟩ = some (.int .i64 pl) ∧ W.cell? ⟨Z, 9, none⟩ = some (.int .i64 pst) ∧ W.cell? ⟨Z, 10, none⟩ = some (.slice pA ps.length pc) ∧ W.cell? ⟨Z, 11, none⟩ = some (.slice wA vs.length wc) ∧ W.cell? ⟨Z, 12, none⟩ = some (.int .i64 pii) ∧ W.cell? ⟨Z, 13, none⟩ = some (.slice rA rs.length rc) from fun W h =>
     ⟨(h.cell (p := ⟨Z, 1, none⟩) hZl).trans c1, (h.cell (p := ⟨Z, 2, none⟩) hZl).trans c2, (h.cell (p := ⟨Z, 3, none⟩) hZl).trans c3, (h.cell (p := ⟨Z, 8, none⟩) hZl).trans c8, (h.cell (p := ⟨Z, 9, none⟩) hZl).trans c9, (h.cell (p := ⟨Z, 10, none⟩) hZl).trans c10, (h.cell (p := ⟨Z, 11, none⟩) hZl).trans c11, (h.cell (p := ⟨Z, 12, none⟩) hZl).trans c12, (h.cell (p := ⟨Z, 13, none⟩) hZl).trans c13⟩)
    rw [hZ]
    clear c1 c2 c3 c8 c9 c10 c11 c12 c13 c15 c17 hIl hOl d0 d1 hW0 hZ hrs
    refine wp_region_noPanic ?_
    refine wp_region_held_drew (S := fun W' => W'.cell? ⟨Z, 1, none⟩ = some (.int .i64 gl) ∧ W'.cell? ⟨Z, 2, none⟩ = some (.int .i64 gs) ∧ W'.cell? ⟨Z, 3, none⟩ = some (.slice gA es.length gc) ∧ W'.cell? ⟨Z, 17, none⟩ = some (.slice (some ⟨O, oo, none⟩) 1 oc) ∧ W'.cell? ⟨O, oo, none⟩ = some (.slice D xs.length d)) (by kernel_rfl) (hSA.out _ hB1) (fun hHeld => ?_)
    generalize Wq.drew = W1 at hB1 hHeld ⊢
    refine wpAnyH_take (i := 0) (oi := _) (v := ?_) rfl (by kernel_rfl) (by kernel_rfl) (by kernel_rfl) (fun _ _ _ h => h) (Or.inl ⟨by rfl, ?_⟩) (by assumption) ?_
    rotate_left
    ·(intro w hSw; (try dsimp only at hSw); go_simp; (try with_reducible rfl))
    (try simp only [List.getElem_toArray, List.getElem_cons_zero, Act.put, List.setIfInBounds_toArray, List.set_cons_zero, List.set_cons_succ])
    refine wpAnyH_take (i := 1) (oi := _) (v := ?_) rfl (by kernel_rfl) (by kernel_rfl) (by kernel_rfl) (fun _ _ _ h => h) (Or.inl ⟨by rfl, ?_⟩) (by assumption) ?_
    rotate_left
    ·(intro w hSw; (try dsimp only at hSw); go_simp; (try with_reducible rfl))
    (try simp only [List.getElem_toArray, List.getElem_cons_zero, List.getElem_cons_succ, Act.put, List.setIfInBounds_toArray, List.set_cons_zero, List.set_cons_succ])
    refine wpAnyH_take (i := 2) (oi := _) (v := ?_) rfl (by kernel_rfl) (by kernel_rfl) (by kernel_rfl) (fun _ _ _ h => h) (Or.inl ⟨by rfl, ?_⟩) (by assumption) ?_
    rotate_left
    ·(intro w hSw; (try dsimp only at hSw); go_simp; (try with_reducible rfl))
    (try simp only [List.getElem_toArray, List.getElem_cons_zero, List.getElem_cons_succ, Act.put, List.setIfInBounds_toArray, List.set_cons_zero, List.set_cons_succ])
    refine wpAnyH_take (i := 3) (oi := _) (v := ?_) rfl (by kernel_rfl) (by kernel_rfl) (by kernel_rfl) (fun _ _ _ h => h) (Or.inl ⟨by rfl, ?_⟩) (by assumption) ?_
    rotate_left
    ·(intro w hSw; (try dsimp only at hSw); go_simp; (try with_reducible rfl))
    (try simp only [List.getElem_toArray, List.getElem_cons_zero, List.getElem_cons_succ, Act.put, List.setIfInBounds_toArray, List.set_cons_zero, List.set_cons_succ])
    refine wpAnyH_take (i := 4) (oi := _) (v := ?_) rfl (by kernel_rfl) (by kernel_rfl) (by kernel_rfl) (fun _ _ _ h => h) (Or.inl ⟨by rfl, ?_⟩) (by assumption) ?_
    rotate_left
    ·(intro w hSw; (try dsimp only at hSw); go_simp; (try with_reducible rfl))
    (try simp only [List.getElem_toArray, List.getElem_cons_zero, List.getElem_cons_succ, Act.put, List.setIfInBounds_toArray, List.set_cons_zero, List.set_cons_succ])
    refine wpAnyH_take (i := 5) (oi := _) (v := ?_) rfl (by kernel_rfl) (by kernel_rfl) (by kernel_rfl) (fun _ _ _ h => h) (Or.inl ⟨by rfl, ?_⟩) (by assumption) ?_
    rotate_left
    ·(intro w hSw; (try dsimp only at hSw); go_simp; (try with_reducible rfl))
    (try simp only [List.getElem_toArray, List.getElem_cons_zero, List.getElem_cons_succ, Act.put, List.setIfInBounds_toArray, List.set_cons_zero, List.set_cons_succ])
    refine wpAnyH_ready (rs := [6, 10]) (by kernel_rfl) (by simp) ?_
    refine AllReadyH.cons (o := _) rfl (fun K hK => ?_) (AllReadyH.cons (o := _) rfl (fun K hK => ?_) AllReadyH.nil)
    ·go_simp
     (with_reducible refine (HKp.out xs D d _ (HAW.out _ hB1) (HXr.out _ hB1) hxl).mono ?_)
     rintro en w2 ⟨g, r, rfl, ⟨ga, gb, go, gn, gk, rfl⟩, hr0, hKg, hB2⟩
     have hX2 := hB1.trans (hB2.mono hB1.size)
     (try go_wp2_with fail)
     refine hK.out _ _ ?_ (fun hHeld => ?_)
     ·exact hSA.out _ hX2
     clear hK K
     (try simp only [List.getElem_toArray, List.getElem_cons_zero, List.getElem_cons_succ, Act.put, List.setIfInBounds_toArray, List.set_cons_zero, List.set_cons_succ])
     refine wpAnyH_take (i := 7) (oi := _) (v := ?_) rfl (by kernel_rfl) (by kernel_rfl) (by kernel_rfl) (fun _ _ _ h => h) (Or.inl ⟨by rfl, ?_⟩) (by assumption) ?_
     rotate_left
     ·(intro w hSw; (try dsimp only at hSw); go_simp; (try with_reducible rfl))
     (try simp only [List.getElem_toArray, List.getElem_cons_zero, List.getElem_cons_succ, Act.put, List.setIfInBounds_toArray, List.set_cons_zero, List.set_cons_succ])
     refine wpAnyH_take (i := 8) (oi := _) (v := ?_) rfl (by kernel_rfl) (by kernel_rfl) (by kernel_rfl) (fun _ _ _ h => h) (Or.inl ⟨by rfl, ?_⟩) (by assumption) ?_
     rotate_left
     ·(intro w hSw; (try dsimp only at hSw); go_simp; (try with_reducible rfl))
     (try simp only [List.getElem_toArray, List.getElem_cons_zero, List.getElem_cons_succ, Act.put, List.setIfInBounds_toArray, List.set_cons_zero, List.set_cons_succ])
     refine wpAnyH_take (i := 9) (oi := _) (v := ?_) rfl (by kernel_rfl) (by kernel_rfl) (by kernel_rfl) (fun _ _ _ h => h) (Or.inl ⟨by rfl, ?_⟩) (by assumption) ?_
     rotate_left
     ·(intro w hSw; (try dsimp only at hSw); go_simp; (try with_reducible rfl))
     (try simp only [List.getElem_toArray, List.getElem_cons_zero, List.getElem_cons_succ, Act.put, List.setIfInBounds_toArray, List.set_cons_zero, List.set_cons_succ])
     refine wpAnyH_ready (rs := [10]) (by kernel_rfl) (by simp) ?_
     refine AllReadyH.cons (o := _) rfl (fun K hK => ?_) AllReadyH.nil
     go_simp
     refine hK.out _ _ ?_ (fun hHeld => ?_)
     ·exact hSA.out _ (hX2.alloc hX2.size _)
     clear hK K
     (try simp only [List.getElem_toArray, List.getElem_cons_zero, List.getElem_cons_succ, Act.put, List.setIfInBounds_toArray, List.set_cons_zero, List.set_cons_succ])
     refine wpAnyH_ready (rs := [11]) (by kernel_rfl) (by simp) ?_
     refine AllReadyH.cons (o := _) rfl (fun K hK => ?_) AllReadyH.nil
     go_simp
     refine hK.out _ _ ?_ (fun hHeld => ?_)
     ·exact hSA.out _ (hX2.alloc hX2.size _)
     clear hK K
     (try simp only [List.getElem_toArray, List.getElem_cons_zero, List.getElem_cons_succ, Act.put, List.setIfInBounds_toArray, List.set_cons_zero, List.set_cons_succ])
     refine wpAnyH_take (i := 12) (oi := _) (v := ?_) rfl (by kernel_rfl) (by kernel_rfl) (by kernel_rfl) (fun _ _ _ h => h) (Or.inl ⟨by rfl, ?_⟩) (by assumption) ?_
     rotate_left
     ·(intro w hSw; (try dsimp only at hSw); go_simp; (try with_reducible rfl))
     (try simp only [List.getElem_toArray, List.getElem_cons_zero, List.getElem_cons_succ, Act.put, List.setIfInBounds_toArray, List.set_cons_zero, List.set_cons_succ])
     refine wpAnyH_done (by kernel_rfl) ?_ _
     refine NoPanic.normal ?_
     have hT := heap_alloc_new w2 (.cells #[.int .i64 ga, .int .i64 gb, .slice go gn gk] 24)
     have hX3 : Below W0.heap.size W0 (w2.alloc (.cells #[.int .i64 ga, .int .i64 gb, .slice go gn gk] 24)) := hX2.alloc hX2.size _
     have hKg3 : r = 0 → KpG (w2.alloc (.cells #[.int .i64 ga, .int .i64 gb, .slice go gn gk] 24)) gl xs es #[.int .i64 ga, .int .i64 gb, .slice go gn gk] := fun h => by obtain ⟨ps', G, k, h1, h2, h3⟩ := hKg h; exact ⟨ps', G, k, h1, h2, h3.below ((Below.refl _ _).alloc (Nat.le_refl _) _)⟩
     clear hKg hX2 hB2
     obtain ⟨b0, b1, b2, _⟩ := at3 hT
     obtain ⟨_, _, _, c8, c9, c10, c11, c12, c13⟩ := HSA.out _ hX3
     by_cases h0 : r = 0
     ·subst h0
      obtain ⟨hGs, hSe⟩ := hr0.1 rfl
      obtain ⟨qs, G, k, hg, hKr, hGe⟩ := hKg3 rfl
      simp only [Array.mk.injEq, List.cons.injEq, Value.int.injEq, Value.slice.injEq, true_and, and_true] at hg
      obtain ⟨rfl, rfl, rfl, rfl, rfl⟩ := hg
      have HS4 := hide (HSa.out _ (HAW.out _ hX3) ga xs.length qs go gk hGe (by have := hKr.len; omega))
      have HB3 := hide hX3
      have HVv := hide (fun W (h : Below W0.heap.size W0 W) => HVe.out W (HAW.out W h))
      have HFin := hide (show ga = pl ∧ (xs.length : Int) = pst ∧ qs = ps → baseB pl pst pii ps vs = true → RateOk ga gs pl es ps vs [pii] [xs] from fun ⟨_, h2, h3⟩ h => ⟨pii, xs, rfl, rfl, hGs, hSe, h3 ▸ hKr, by rw [h2]; exact h⟩)
      clear hr0 hGs hSe hKr hGe hKg3 HKp HSa HVe hX3 hT HXr HI HD
      go_wp2_with fail
      (with_reducible refine HS4.out.mono ?_)
      rintro e w4 ⟨⟨b, rfl, hb⟩, hB4⟩
      have hX4 := HB3.out.trans (hB4.mono HB3.out.size)
      cases b
      ·clear hb
       go_wp2
       go_ret
       exact ⟨⟨false, rfl, fun h => by cases h⟩, HAW.out _ hX4⟩
      ·have hsm := hb.1 rfl
       have HV4 := hide (HVv.out w4 hX4)
       obtain ⟨_, _, _, e8, e9, e10, e11, e12, e13⟩ := HSA.out _ hX4
       have HX4 := hide hX4
       have HF4 := hide (HFin.out hsm)
       clear hb hsm hB4 hX4 b0 b1 b2 c8 c9 c10 c11 c12 c13
       go_wp2_with fail
       (with_reducible refine HV4.out.mono ?_)
       rintro e w5 ⟨⟨r2, rfl, hP⟩, hB5⟩
       have HX5 := hide (HAW.out _ (HX4.out.trans (hB5.mono HX4.out.size)))
       by_cases h2 : r2 = 0
       ·subst h2
        have HP := hide (HF4.out (hP rfl))
        clear hP hB5
        go_wp2
        go_ret
        exact ⟨⟨true, rfl, fun _ => HP.out⟩, HX5.out⟩
       ·have h3 : (r2 == 0) = false := by rw [beq_eq_false_iff_ne]; exact h2
        clear hP hB5
        go_wp2
        go_ret
        exact ⟨⟨false, rfl, fun h => by cases h⟩, HX5.out⟩
     ·have h1 : (r == 0) = false := by rw [beq_eq_false_iff_ne]; exact h0
      have HB3 := hide (HAW.out _ hX3)
      clear hr0 hKg3 HKp HSa HVe hX3 hT
      go_wp2
      go_ret
      exact ⟨⟨false, rfl, fun h => by cases h⟩, HB3.out⟩
    ·go_simp
     have hXa : Below W0.heap.size W0 (W1.alloc (.cells #[.int .i64 0, .int .i64 0, .slice none 0 0] 24)) := hB1.alloc hB1.size _
     refine hK.out _ _ ?_ (fun hHeld => ?_)
     ·exact hSA.out _ hXa
     clear hK K
     (try simp only [List.getElem_toArray, List.getElem_cons_zero, List.getElem_cons_succ, Act.put, List.setIfInBounds_toArray, List.set_cons_zero, List.set_cons_succ])
     refine wpAnyH_ready (rs := [6]) (by kernel_rfl) (by simp) ?_
     refine AllReadyH.cons (o := _) rfl (fun K hK => ?_) AllReadyH.nil
     go_simp
     (with_reducible refine (HKp.out xs D d _ (HAW.out _ hXa) (HXr.out _ hXa) hxl).mono ?_)
     rintro en w2 ⟨g, r, rfl, ⟨ga, gb, go, gn, gk, rfl⟩, hr0, hKg, hB2⟩
     have hX2 := hXa.trans (hB2.mono hXa.size)
     (try go_wp2_with fail)
     refine hK.out _ _ ?_ (fun hHeld => ?_)
     ·exact hSA.out _ hX2
     clear hK K
     (try simp only [List.getElem_toArray, List.getElem_cons_zero, List.getElem_cons_succ, Act.put, List.setIfInBounds_toArray, List.set_cons_zero, List.set_cons_succ])
     refine wpAnyH_take (i := 7) (oi := _) (v := ?_) rfl (by kernel_rfl) (by kernel_rfl) (by kernel_rfl) (fun _ _ _ h => h) (Or.inl ⟨by rfl, ?_⟩) (by assumption) ?_
     rotate_left
     ·(intro w hSw; (try dsimp only at hSw); go_simp; (try with_reducible rfl))
     (try simp only [List.getElem_toArray, List.getElem_cons_zero, List.getElem_cons_succ, Act.put, List.setIfInBounds_toArray, List.set_cons_zero, List.set_cons_succ])
     refine wpAnyH_take (i := 8) (oi := _) (v := ?_) rfl (by kernel_rfl) (by kernel_rfl) (by kernel_rfl) (fun _ _ _ h => h) (Or.inl ⟨by rfl, ?_⟩) (by assumption) ?_
     rotate_left
     ·(intro w hSw; (try dsimp only at hSw); go_simp; (try with_reducible rfl))
     (try simp only [List.getElem_toArray, List.getElem_cons_zero, List.getElem_cons_succ, Act.put, List.setIfInBounds_toArray, List.set_cons_zero, List.set_cons_succ])
     refine wpAnyH_take (i := 9) (oi := _) (v := ?_) rfl (by kernel_rfl) (by kernel_rfl) (by kernel_rfl) (fun _ _ _ h => h) (Or.inl ⟨by rfl, ?_⟩) (by assumption) ?_
     rotate_left
     ·(intro w hSw; (try dsimp only at hSw); go_simp; (try with_reducible rfl))
     (try simp only [List.getElem_toArray, List.getElem_cons_zero, List.getElem_cons_succ, Act.put, List.setIfInBounds_toArray, List.set_cons_zero, List.set_cons_succ])
     have hN2 := (hB2.block W1.heap.size (by simp)).trans (heap_alloc_new W1 (.cells #[.int .i64 0, .int .i64 0, .slice none 0 0] 24))
     obtain ⟨n0, n1, n2, nf⟩ := at3 hN2
     have hNz : W0.heap.size ≤ W1.heap.size := hB1.size
     have hX3 := below_set3 hX2 hNz (.int .i64 ga) (.int .i64 gb) (.slice go gn gk)
     refine wpAnyH_ready (rs := [11]) (by kernel_rfl) (by simp) ?_
     refine AllReadyH.cons (o := _) rfl (fun K hK => ?_) AllReadyH.nil
     go_simp
     refine hK.out _ _ ?_ (fun hHeld => ?_)
     ·exact hSA.out _ hX3
     clear hK K
     (try simp only [List.getElem_toArray, List.getElem_cons_zero, List.getElem_cons_succ, Act.put, List.setIfInBounds_toArray, List.set_cons_zero, List.set_cons_succ])
     refine wpAnyH_take (i := 12) (oi := _) (v := ?_) rfl (by kernel_rfl) (by kernel_rfl) (by kernel_rfl) (fun _ _ _ h => h) (Or.inl ⟨by rfl, ?_⟩) (by assumption) ?_
     rotate_left
     ·(intro w hSw; (try dsimp only at hSw); go_simp; (try with_reducible rfl))
     (try simp only [List.getElem_toArray, List.getElem_cons_zero, List.getElem_cons_succ, Act.put, List.setIfInBounds_toArray, List.set_cons_zero, List.set_cons_succ])
     refine wpAnyH_done (by kernel_rfl) ?_ _
     refine NoPanic.normal ?_
     have hT := set3 hN2 (.int .i64 ga) (.int .i64 gb) (.slice go gn gk)
     have hKg3 : r = 0 → KpG (((w2.setCell ⟨W1.heap.size, 0, none⟩ (.int .i64 ga)).setCell ⟨W1.heap.size, 1, none⟩ (.int .i64 gb)).setCell ⟨W1.heap.size, 2, none⟩ (.slice go gn gk)) gl xs es #[.int .i64 ga, .int .i64 gb, .slice go gn gk] := fun h => by obtain ⟨ps', G, k, h1, h2, h3⟩ := hKg h; exact ⟨ps', G, k, h1, h2, h3.putG hN2 _ _ _⟩
     clear hKg hX2 hB2 hN2 n0 n1 n2 nf
     obtain ⟨b0, b1, b2, _⟩ := at3 hT
     obtain ⟨_, _, _, c8, c9, c10, c11, c12, c13⟩ := HSA.out _ hX3
     by_cases h0 : r = 0
     ·subst h0
      obtain ⟨hGs, hSe⟩ := hr0.1 rfl
      obtain ⟨qs, G, k, hg, hKr, hGe⟩ := hKg3 rfl
      simp only [Array.mk.injEq, List.cons.injEq, Value.int.injEq, Value.slice.injEq, true_and, and_true] at hg
      obtain ⟨rfl, rfl, rfl, rfl, rfl⟩ := hg
      have HS4 := hide (HSa.out _ (HAW.out _ hX3) ga xs.length qs go gk hGe (by have := hKr.len; omega))
      have HB3 := hide hX3
      have HVv := hide (fun W (h : Below W0.heap.size W0 W) => HVe.out W (HAW.out W h))
      have HFin := hide (show ga = pl ∧ (xs.length : Int) = pst ∧ qs = ps → baseB pl pst pii ps vs = true → RateOk ga gs pl es ps vs [pii] [xs] from fun ⟨_, h2, h3⟩ h => ⟨pii, xs, rfl, rfl, hGs, hSe, h3 ▸ hKr, by rw [h2]; exact h⟩)
      clear hr0 hGs hSe hKr hGe hKg3 HKp HSa HVe hX3 hT HXr HI HD
      go_wp2_with fail
      (with_reducible refine HS4.out.mono ?_)
      rintro e w4 ⟨⟨b, rfl, hb⟩, hB4⟩
      have hX4 := HB3.out.trans (hB4.mono HB3.out.size)
      cases b
      ·clear hb
       go_wp2
       go_ret
       exact ⟨⟨false, rfl, fun h => by cases h⟩, HAW.out _ hX4⟩
      ·have hsm := hb.1 rfl
       have HV4 := hide (HVv.out w4 hX4)
       obtain ⟨_, _, _, e8, e9, e10, e11, e12, e13⟩ := HSA.out _ hX4
       have HX4 := hide hX4
       have HF4 := hide (HFin.out hsm)
       clear hb hsm hB4 hX4 b0 b1 b2 c8 c9 c10 c11 c12 c13
       go_wp2_with fail
       (with_reducible refine HV4.out.mono ?_)
       rintro e w5 ⟨⟨r2, rfl, hP⟩, hB5⟩
       have HX5 := hide (HAW.out _ (HX4.out.trans (hB5.mono HX4.out.size)))
       by_cases h2 : r2 = 0
       ·subst h2
        have HP := hide (HF4.out (hP rfl))
        clear hP hB5
        go_wp2
        go_ret
        exact ⟨⟨true, rfl, fun _ => HP.out⟩, HX5.out⟩
       ·have h3 : (r2 == 0) = false := by rw [beq_eq_false_iff_ne]; exact h2
        clear hP hB5
        go_wp2
        go_ret
        exact ⟨⟨false, rfl, fun h => by cases h⟩, HX5.out⟩
     ·have h1 : (r == 0) = false := by rw [beq_eq_false_iff_ne]; exact h0
      have HB3 := hide (HAW.out _ hX3)
      clear hr0 hKg3 HKp HSa HVe hX3 hT
      go_wp2
      go_ret
      exact ⟨⟨false, rfl, fun h => by cases h⟩, HB3.out⟩
   ·have e3 : (pii != m) = true := bne_iff_ne.2 h3
    have e3' : decide (pii = m) = false := decide_eq_false h3
    have e3'' : (pii = m) = False := eq_false h3
    clear hIc hOc hX h3 hrl c1 c2 c3 c8 c9 c10 c11 c13 HI HD HKp HVe HSa hrs
    go_enter Tryz.func37, Tryz.ntmps37
    go_wp2_with fail
    go_quiet (fail)
    go_wp2
    go_ret
    exact ⟨⟨false, rfl, fun h => by cases h⟩, belowN HA.out _⟩
  ·have e1 : ((rows.length : Int) = 1) = False := eq_false (by omega)
   have e1' : decide ((rows.length : Int) = 1) = false := decide_eq_false (by omega)
   have e1'' : ((rows.length : Int) != 1) = true := by simp; omega
   simp only [List.length_singleton] at c15
   clear h1 h2 hrl c1 c2 c3 c8 c9 c10 c11 c12 c13 HI HD HKp HVe HSa hrs
   go_enter Tryz.func37, Tryz.ntmps37
   go_wp2_with fail
   go_quiet (fail)
   go_wp2
   go_ret
   exact ⟨⟨false, rfl, fun h => by cases h⟩, belowN HA.out _⟩
 ·have e1 : ((ixs.length : Int) = 1) = False := eq_false (by omega)
  have e1' : decide ((ixs.length : Int) = 1) = false := decide_eq_false (by omega)
  have e1'' : ((ixs.length : Int) != 1) = true := by simp; omega
  clear h1 hrl c1 c2 c3 c8 c9 c10 c11 c12 c13 HI HD HKp HVe HSa hrs
  go_enter Tryz.func37, Tryz.ntmps37
  go_wp2_with fail
  go_quiet (fail)
  go_wp2
  go_ret
  exact ⟨⟨false, rfl, fun h => by cases h⟩, belowN HA.out _⟩
theorem sums_cmp {u v : Nat → Int} {a b : Int} {n : Nat} (hc : ∀ t, t < n → v t * a ≤ b * u t) (s : Nat) (es : List Edg) (he : ∀ e ∈ es, inE n e) : sumsF v es s * a ≤ b * sumsF u es s := by
 have key : ∀ (es : List Edg), (∀ e ∈ es, inE n e) → ∀ (x y : Nat → Int), x s * a ≤ b * y s → (es.foldl (fun acc e => fun s => if s = e.f.toNat then acc s + v e.t.toNat else acc s) x) s * a ≤ b * (es.foldl (fun acc e => fun s => if s = e.f.toNat then acc s + u e.t.toNat else acc s) y) s := by
  intro es
  induction es with
  | nil => intro _ x y h; exact h
  | cons e t ih =>
   intro he x y h
   refine ih (fun z hz => he z (List.mem_cons_of_mem _ hz)) _ _ ?_
   obtain ⟨_, _, h3, h4⟩ := he e List.mem_cons_self
   have := hc e.t.toNat (by omega)
   by_cases hs : s = e.f.toNat
   ·simp only [if_pos hs, Int.add_mul, Int.mul_add]; omega
   ·simp only [if_neg hs]; exact h
 exact key es he (fun _ => 0) (fun _ => 0) (by simp)
theorem best (u v : Nat → Int) : ∀ n, 0 < n → (∀ k, k < n → 0 < u k) → ∃ s, s < n ∧ ∀ t, t < n → v t * u s ≤ v s * u t
 | 0, h, _ => absurd h (by omega)
 | 1, _, _ => ⟨0, by omega, fun t ht => by
  have e : t = 0 := by omega
  rw [e]
  exact Int.le_refl _⟩
 | n + 2, _, hu => by
  obtain ⟨s, hs, hm⟩ := best u v (n + 1) (by omega) (fun k hk => hu k (by omega))
  by_cases h : v (n + 1) * u s ≤ v s * u (n + 1)
  ·refine ⟨s, by omega, fun t ht => ?_⟩
   by_cases e : t = n + 1
   ·rw [e]; exact h
   ·exact hm t (by omega)
  ·refine ⟨n + 1, by omega, fun t ht => ?_⟩
   by_cases e : t = n + 1
   ·rw [e]; exact Int.le_refl _
   ·have h1 := hm t (by omega)
    have k0 := hu s (by omega)
    have k1 := hu (n + 1) (by omega)
    have k2 := hu t ht
    have g1 : v t * u s * u (n + 1) ≤ v s * u t * u (n + 1) := Int.mul_le_mul_of_nonneg_right h1 (by omega)
    have g2 : v s * u (n + 1) * u t ≤ v (n + 1) * u s * u t := Int.mul_le_mul_of_nonneg_right (by omega) (by omega)
    refine Int.le_of_mul_le_mul_right (a := u s) ?_ k0
    have e1 : v t * u (n + 1) * u s = v t * u s * u (n + 1) := by ac_rfl
    have e2 : v s * u t * u (n + 1) = v s * u (n + 1) * u t := by ac_rfl
    have e3 : v (n + 1) * u t * u s = v (n + 1) * u s * u t := by ac_rfl
    omega
theorem ref_eig_no {n : Nat} {m : Int} {es : List Edg} {u v : Nat → Int} (he : ∀ e ∈ es, inE n e) (hr : refB n es m u = true) (hv : ∀ k, k < n → 0 ≤ v k) (hE : ∀ k, k < n → m * v k ≤ sumsF v es k) (hne : ∃ k, k < n ∧ v k ≠ 0) : False := by
 have hu : ∀ k, k < n → 0 < u k ∧ sumsF u es k < m * u k := fun k hk => by
  have := List.all_eq_true.1 hr k (List.mem_range.2 hk)
  unfold refAt at this
  simpa [Bool.and_eq_true] using this
 obtain ⟨k, hk, hk0⟩ := hne
 obtain ⟨s, hs, hb⟩ := best u v n (by omega) (fun k hk => (hu k hk).1)
 have hvs : 0 < v s := by
  have h1 := hb k hk
  have h2 : 0 < v k := by have := hv k hk; omega
  have h3 : 0 < v k * u s := Int.mul_pos h2 (hu s hs).1
  have h4 := hv s hs
  rcases Int.lt_or_eq_of_le h4 with h | h
  ·exact h
  ·rw [← h] at h1; simp at h1; omega
 have h1 := sums_cmp (a := u s) (b := v s) hb s es he
 have h2 := Int.mul_le_mul_of_nonneg_right (hE s hs) (Int.le_of_lt (hu s hs).1)
 have h3 : v s * sumsF u es s < v s * (m * u s) := Int.mul_lt_mul_of_pos_left (hu s hs).2 hvs
 have e : m * v s * u s = v s * (m * u s) := by ac_rfl
 omega
def liftV (xs : List Int) (v : Nat → Int) (s : Nat) : Int := match (List.range xs.length).find? fun i => xs.getD i 0 == (s : Int) with
 | some i => v i
 | none => 0
theorem set_at {S : Int} {xs : List Int} (h : setE S xs = 0) {k : Nat} (hk : k < xs.length) : setAt S xs k = 0 := fsN_zero h k hk
theorem set_in {S : Int} {xs : List Int} (h : setE S xs = 0) {k : Nat} (hk : k < xs.length) : 0 ≤ xs.getD k 0 ∧ xs.getD k 0 < S := by
 have := set_at h hk
 unfold setAt at this
 split at this
 ·cases this
 ·omega
theorem set_up {S : Int} {xs : List Int} (h : setE S xs = 0) : ∀ {k : Nat}, k < xs.length → ∀ {j : Nat}, j < k → xs.getD j 0 < xs.getD k 0 := by
 intro k
 induction k with
 | zero => intro _ j hj; omega
 | succ k ih =>
  intro hk j hj
  have := set_at h hk
  unfold setAt at this
  split at this
  ·cases this
  ·split at this
   ·cases this
   ·rename_i h1 h2
    simp only [Nat.add_sub_cancel] at h2
    by_cases e : j = k
    ·subst e; omega
    ·have := ih (by omega) (show j < k by omega); omega
theorem lift_at {S : Int} {xs : List Int} (h : setE S xs = 0) (v : Nat → Int) {k : Nat} (hk : k < xs.length) : liftV xs v (xs.getD k 0).toNat = v k := by
 have h0 := set_in h hk
 unfold liftV
 have : ((List.range xs.length).find? fun i => xs.getD i 0 == (((xs.getD k 0).toNat : Nat) : Int)) = some k := by
  rw [List.find?_range_eq_some]
  have hj2 := fun j => @set_up S xs h k hk j
  generalize xs.getD k 0 = z at h0 hj2 ⊢
  refine ⟨by rw [Int.toNat_of_nonneg h0.1, beq_self_eq_true], by simpa using hk, fun j hj => ?_⟩
  have := hj2 j hj
  rw [Int.toNat_of_nonneg h0.1, Bool.not_eq_true', beq_eq_false_iff_ne]
  omega
 rw [this]
theorem lift_nn {xs : List Int} {v : Nat → Int} (hv : ∀ k, k < xs.length → 0 ≤ v k) (s : Nat) : 0 ≤ liftV xs v s := by
 unfold liftV
 split
 ·rename_i i hi
  exact hv i (by have := List.mem_of_find?_eq_some hi; simpa using this)
 ·exact Int.le_refl _
theorem lift_no {xs : List Int} {v : Nat → Int} {s : Nat} (h : ∀ k, k < xs.length → xs.getD k 0 ≠ s) : liftV xs v s = 0 := by
 unfold liftV
 split
 ·rename_i i hi
  have h1 := List.mem_of_find?_eq_some hi
  have h2 := List.find?_some hi
  exact absurd (by simpa using h2) (h i (by simpa using h1))
 ·rfl
theorem lift_sums {S : Int} {xs : List Int} (h : setE S xs = 0) {v : Nat → Int} (hv : ∀ k, k < xs.length → 0 ≤ v k) {ps es : List Edg} (hk : KpR xs ps es) {i : Nat} (hi : i < xs.length) : sumsF v ps i ≤ sumsF (liftV xs v) es (xs.getD i 0).toNat := by
 induction hk with
 | nil => exact Int.le_refl _
 | @skip ps es e _ ih =>
  rw [sumsVsnoc]
  have := lift_nn hv e.t.toNat
  dsimp only
  split <;> omega
 | @take ps es p e _ hp ih =>
  obtain ⟨i', j', h1, h2, _, hi', hj', h3, h4⟩ := hp
  rw [sumsVsnoc, sumsVsnoc]
  show (if _ then _ else _) ≤ if _ then _ else _
  have g1 := set_in h hi
  have g2 := set_in h hi'
  by_cases e1 : i = i'
  ·subst e1
   rw [if_pos (by rw [h1]; simp), if_pos (by rw [h3]), h2, ← h4, lift_at h v hj']
   simpa using ih
  ·have hne : xs.getD i 0 ≠ xs.getD i' 0 := by
    rcases Nat.lt_or_ge i i' with hl | hg
    ·have := set_up h hi' hl; omega
    ·have := set_up h hi (show i' < i by omega); omega
   rw [if_neg (by rw [h1]; simpa using e1), if_neg (by rw [← h3]; omega)]
   exact ih
def sumN (f : Nat → Int) : Nat → Nat
 | 0 => 0
 | n + 1 => sumN f n + (f n).toNat
theorem sumN_le {f g : Nat → Int} : ∀ n, (∀ k, k < n → f k ≤ g k) → sumN f n ≤ sumN g n
 | 0, _ => Nat.le_refl _
 | n + 1, h => by
  have h1 := sumN_le n (fun k hk => h k (by omega))
  have h2 := h n (by omega)
  show sumN f n + _ ≤ sumN g n + _
  omega
theorem sumN_lt {f g : Nat → Int} : ∀ n, (∀ k, k < n → 0 ≤ f k ∧ f k ≤ g k) → (∃ k, k < n ∧ f k ≠ g k) → sumN f n < sumN g n
 | 0, _, ⟨k, hk, _⟩ => absurd hk (by omega)
 | n + 1, h, ⟨k, hk, hne⟩ => by
  have h1 := sumN_le n (fun k hk => (h k (by omega)).2)
  have h2 := h n (by omega)
  show sumN f n + _ < sumN g n + _
  by_cases e : k = n
  ·subst e; omega
  ·have h3 := sumN_lt n (fun k hk => h k (by omega)) ⟨k, by omega, hne⟩
   omega
def grM (m : Nat) (z s : Nat → Int) (i : Nat) : Nat → Int := fun k => if k < i then min (z k) (s k / (m : Int)) else s k
theorem grM_zero (m : Nat) (z s : Nat → Int) : grM m z s 0 = s := by funext k; simp [grM]
theorem grM_at (m : Nat) (z s : Nat → Int) (i : Nat) : grM m z s i i = s i := by simp [grM]
theorem grM_succ (m : Nat) (z s : Nat → Int) (i : Nat) : (fun k => if k = i then min (z i) (s i / (m : Int)) else grM m z s i k) = grM m z s (i + 1) := by
 funext k
 unfold grM
 by_cases h : k = i
 ·subst h; simp
 ·rw [if_neg h]
  by_cases h2 : k < i
  ·rw [if_pos h2, if_pos (by omega)]
  ·rw [if_neg h2, if_neg (by omega)]
theorem sumsNn {v : Nat → Int} {n : Nat} (hv : ∀ k, k < n → 0 ≤ v k) (es : List Edg) (he : ∀ e ∈ es, inE n e) (s : Nat) : 0 ≤ sumsF v es s := by
 have key : ∀ (es : List Edg), (∀ e ∈ es, inE n e) → ∀ (acc : Nat → Int), (∀ s, 0 ≤ acc s) → ∀ s, 0 ≤ (es.foldl (fun acc e => fun s => if s = e.f.toNat then acc s + v e.t.toNat else acc s) acc) s := by
  intro es
  induction es with
  | nil => intro _ acc h s; exact h s
  | cons e t ih =>
   intro he acc h s
   refine ih (fun x hx => he x (List.mem_cons_of_mem _ hx)) _ (fun s => ?_) s
   obtain ⟨_, _, h3, h4⟩ := he e List.mem_cons_self
   have h5 := hv e.t.toNat (by omega)
   have h6 := h s
   show 0 ≤ if s = e.f.toNat then acc s + v e.t.toNat else acc s
   split <;> omega
 exact key es he (fun _ => 0) (fun _ => by omega) s
def GrOk (n m : Nat) (es : List Edg) (zs : List Int) : Prop := zs.length = n ∧ (∀ k, k < n → 0 ≤ zs.getD k 0 ∧ zs.getD k 0 ≤ 4096) ∧ ∀ k, k < n → (m : Int) * zs.getD k 0 ≤ sumsF (fun k => zs.getD k 0) es k
theorem gr_fix {n m : Nat} {es : List Edg} {zs : List Int} (hm : 1 ≤ m) (hl : zs.length = n) (hb : ∀ k, k < n → 0 ≤ zs.getD k 0 ∧ zs.getD k 0 ≤ 4096) (he : rowI n (grM m (fun k => zs.getD k 0) (sumsF (fun k => zs.getD k 0) es) n) = zs) : GrOk n m es zs := by
 refine ⟨hl, hb, fun k hk => ?_⟩
 have h1 : zs.getD k 0 = grM m (fun k => zs.getD k 0) (sumsF (fun k => zs.getD k 0) es) n k := by
  conv => lhs; rw [← he]
  exact rowI_get _ hk
 unfold grM at h1
 rw [if_pos hk] at h1
 have h2 : zs.getD k 0 ≤ sumsF (fun k => zs.getD k 0) es k / (m : Int) := by
  have := Int.min_le_right (zs.getD k 0) (sumsF (fun k => zs.getD k 0) es k / (m : Int))
  omega
 have h3 := Int.mul_ediv_self_le (x := sumsF (fun k => zs.getD k 0) es k) (k := (m : Int)) (by omega)
 have h4 := Int.mul_le_mul_of_nonneg_left h2 (show (0 : Int) ≤ m by omega)
 omega
theorem gr_less {n m : Nat} {es : List Edg} {zs : List Int} (hm : 1 ≤ m) (hin : ∀ e ∈ es, inE n e) (hl : zs.length = n) (hb : ∀ k, k < n → 0 ≤ zs.getD k 0 ∧ zs.getD k 0 ≤ 4096) (he : rowI n (grM m (fun k => zs.getD k 0) (sumsF (fun k => zs.getD k 0) es) n) ≠ zs) :
  (∀ k, k < n → 0 ≤ (rowI n (grM m (fun k => zs.getD k 0) (sumsF (fun k => zs.getD k 0) es) n)).getD k 0 ∧ (rowI n (grM m (fun k => zs.getD k 0) (sumsF (fun k => zs.getD k 0) es) n)).getD k 0 ≤ 4096) ∧
  sumN (fun k => (rowI n (grM m (fun k => zs.getD k 0) (sumsF (fun k => zs.getD k 0) es) n)).getD k 0) n < sumN (fun k => zs.getD k 0) n := by
 have hnn := fun k => sumsNn (v := fun k => zs.getD k 0) (n := n) (fun k hk => (hb k hk).1) es hin k
 obtain ⟨S, hS⟩ : ∃ S, sumsF (fun k => zs.getD k 0) es = S := ⟨_, rfl⟩
 rw [hS] at he hnn ⊢
 have hat : ∀ k, k < n → (rowI n (grM m (fun k => zs.getD k 0) S n)).getD k 0 = min (zs.getD k 0) (S k / (m : Int)) := fun k hk => by
  rw [rowI_get _ hk]
  unfold grM
  rw [if_pos hk]
 have hq : ∀ k, 0 ≤ S k / (m : Int) := fun k => Int.ediv_nonneg (hnn k) (by omega)
 have hmin : ∀ k, k < n → 0 ≤ min (zs.getD k 0) (S k / (m : Int)) ∧ min (zs.getD k 0) (S k / (m : Int)) ≤ zs.getD k 0 := fun k hk => by
  have h1 := hb k hk
  have h2 := hq k
  omega
 refine ⟨fun k hk => ?_, sumN_lt n (fun k hk => ?_) ?_⟩
 ·rw [hat k hk]
  have := hmin k hk
  have := hb k hk
  omega
 ·show 0 ≤ (rowI n (grM m (fun k => zs.getD k 0) S n)).getD k 0 ∧ (rowI n (grM m (fun k => zs.getD k 0) S n)).getD k 0 ≤ zs.getD k 0
  rw [hat k hk]
  exact hmin k hk
 ·refine Decidable.byContradiction fun hno => he ?_
  apply List.ext_getElem
  ·rw [rowI_len, hl]
  ·intro k h1 h2
   have hk : k < n := by rw [rowI_len] at h1; exact h1
   refine Decidable.byContradiction fun hne => hno ⟨k, hk, fun e => hne ?_⟩
   have e1 : (rowI n (grM m (fun k => zs.getD k 0) S n)).getD k 0 = zs.getD k 0 := e
   rw [List.getD_eq_getElem?_getD, List.getElem?_eq_getElem h1, List.getD_eq_getElem?_getD, List.getElem?_eq_getElem h2] at e1
   exact e1
theorem IB.ints {w : World} {g : Nat} {zs : List Int} (h : IB w g zs) (hm : zs.length ≤ 4294967296) : Ints w g (.slice (some ⟨g, 0, none⟩) zs.length zs.length) zs :=
 ⟨by simp, .inr ⟨g, zs.length, _, rfl, Nat.le_refl _, h, by simp, by unfold maxLen; omega, by simp, by rw [Nat.mul_one, ← List.length_map (f := Value.int .i64), List.take_length]⟩⟩
theorem Below.of_grown {w w' : World} (h : w.grownBy w' none) : Below w.heap.size w w' := ⟨h.os, h.tape, h.output, h.size, fun k hk => h.block k hk (by simp)⟩
theorem Ints.rowI {w : World} {B g n cap : Nat} {zs : List Int} (h : Ints w B (.slice (some ⟨g, 0, none⟩) n cap) zs) : RowI w (some ⟨g, 0, none⟩) zs := fun h0 => by
 obtain ⟨g', cap', e, _, hl⟩ := h.form h0
 simp only [Value.slice.injEq, Option.some.injEq, Addr.mk.injEq, and_true, true_and] at e
 obtain ⟨rfl, rfl, rfl⟩ := e
 exact ⟨g, 0, rfl, hl, fun k hk => by rw [Nat.zero_add]; exact h.cell hk⟩
set_option maxRecDepth 100000 in
set_option maxHeartbeats 2000000 in
theorem evGreat_any (L : Int) (n m : Nat) (es : List Edg) (A : Option Addr) (c g : Nat) (vs : List Int) (w : World) (hn0 : 0 < n) (hn : n ≤ 64) (hm1 : 1 ≤ m) (hm2 : m ≤ 256) (hl : es.length ≤ 1024) (he : ∀ e ∈ es, inE n e) (hr : RowE w A es)
  (hvl : vs.length = n) (hv : IB w g vs) (hvb : ∀ k, k < n → 0 ≤ vs.getD k 0 ∧ vs.getD k 0 ≤ 4096) :
  Calls Tryz.prog 30 #[.agg #[.int .i64 L, .int .i64 (n : Int), .slice A es.length c], .slice (some ⟨g, 0, none⟩) n n, .int .i64 (m : Int)] w fun e w' => ∃ (zs : List Int) (D cp : Nat), e = .returned (.slice (some ⟨D, 0, none⟩) n cp) ∧ GrOk n m es zs ∧ RowI w' (some ⟨D, 0, none⟩) zs ∧ Below w.heap.size w w' := by
 obtain ⟨Z, hZ⟩ : ∃ Z, w.heap.size = Z := ⟨_, rfl⟩
 have HZ := hide hZ
 have hB0 : Below Z w (w.alloc (.cells #[.int .i64 L, .int .i64 (n : Int), .slice A es.length c] 24)) := by rw [← hZ]; exact (Below.refl _ w).alloc (Nat.le_refl _) _
 have hb0 : (w.alloc (.cells #[.int .i64 L, .int .i64 (n : Int), .slice A es.length c] 24)).heap[Z]? = some (.cells #[.int .i64 L, .int .i64 (n : Int), .slice A es.length c] 24 (0, 0)) := hZ ▸ heap_alloc_new w _
 have HR := hide (fun W (hW : Below Z w W) => hr.below (hW.mono (Nat.le_of_eq hZ)))
 have HBx := hide (fun W (h : Below Z w W) (hz : Z < W.heap.size) (h0 : W.heap[Z]? = some (.cells #[.int .i64 L, .int .i64 (n : Int), .slice A es.length c] 24 (0, 0))) W' (h' : Below W.heap.size W W') => show Below Z w W' ∧ W'.heap[Z]? = some (.cells #[.int .i64 L, .int .i64 (n : Int), .slice A es.length c] 24 (0, 0)) from ⟨h.trans (h'.mono (Nat.le_of_lt hz)), (h'.block Z hz).trans h0⟩)
 have hzl : Z < (w.alloc (.cells #[.int .i64 L, .int .i64 (n : Int), .slice A es.length c] 24)).heap.size := by rw [← hZ]; simp
 have HC := hide (fun W (h : Below Z w W) => cloneI_any g (.slice (some ⟨g, 0, none⟩) n n) vs W (by
  have h1 : IB W g vs := hv.below (h.mono (Nat.le_of_eq hZ))
  have := h1.ints (by omega)
  rwa [hvl] at this) (by omega) (by omega))
 have HE := hide he
 have HS := hide (fun (zs : List Int) (D cp : Nat) W (h : Below Z w W) (hzl : zs.length = n) (hzb : ∀ k, k < n → 0 ≤ zs.getD k 0 ∧ zs.getD k 0 ≤ 4096) (hz : RowI W (some ⟨D, 0, none⟩) zs) => show Calls Tryz.prog 34 #[.agg #[.int .i64 L, .int .i64 (n : Int), .slice A es.length c], .slice (some ⟨D, 0, none⟩) n cp, .func (.func 35) #[] #[]] W (fun e w' => e = .returned (.slice (some ⟨W.heap.size + 1, 0, none⟩) n n) ∧ IB w' (W.heap.size + 1) (rowI n (sumsF (fun k => zs.getD k 0) es)) ∧ Below W.heap.size W w') from by
  obtain ⟨b, o, hbo, hb, hcz⟩ := hz (by omega)
  simp only [Option.some.injEq, Addr.mk.injEq, and_true] at hbo
  obtain ⟨rfl, rfl⟩ := hbo
  exact evSumsI_any L n es A c D 0 cp (fun k => zs.getD k 0) W hn hl he (hr.below (h.mono (Nat.le_of_eq hZ))) hb (fun k hk => by rw [hcz k (by omega)]; simp [show k < zs.length by omega]) (fun k hk => by have := hzb k hk; show (zs.getD k 0).natAbs ≤ _; omega))
 have HQ := hide (fun (xs ys : List Int) (D E c1 c2 : Nat) W (h1 : RowI W (some ⟨D, 0, none⟩) xs) (h2 : RowI W (some ⟨E, 0, none⟩) ys) (hx : xs.length = n) (hy : ys.length = n) => by
  have := slEqualI_any xs ys (some ⟨D, 0, none⟩) (some ⟨E, 0, none⟩) c1 c2 W h1 h2 (by omega) (by omega)
  rw [hx, hy] at this
  exact this)
 have HV := hide hvb
 have HL := hide hvl
 clear hr he hv hvb hvl hZ
 go_enter Tryz.func30, Tryz.ntmps30
 go_wp2_with fail
 try rw [HZ.out]
 generalize w.alloc (.cells #[.int .i64 L, .int .i64 (n : Int), .slice A es.length c] 24) = W0 at hB0 hb0 hzl ⊢
 refine (HC.out W0 hB0).mono ?_
 rintro e W1 ⟨v1, rfl, hI1, hg1⟩
 have hB1 : Below W0.heap.size W0 W1 := Below.of_grown hg1
 have HBZ := hide (HBx.out W0 hB0 hzl hb0 W1 hB1)
 obtain ⟨D1, cp1, rfl, _, _⟩ := hI1.form (by have := HL.out; omega)
 have HR1 := hide hI1.rowI
 have hvn := HL.out
 rw [hvn]
 clear hB1 hg1 hI1 hB0 hb0 hzl HC hvn
 go_wp2_with fail
 go_loopg [1] (sumN (fun k => vs.getD k 0) n) (fun gk vv wr => ∃ (zs : List Int) (D cp : Nat), gk = sumN (fun k => zs.getD k 0) n ∧ vv = .slice (some ⟨D, 0, none⟩) n cp ∧ Hid (zs.length = n) ∧ Hid (∀ k, k < n → 0 ≤ zs.getD k 0 ∧ zs.getD k 0 ≤ 4096) ∧ Hid (RowI wr (some ⟨D, 0, none⟩) zs) ∧ Hid (Below Z w wr ∧ wr.heap[Z]? = some (.cells #[.int .i64 L, .int .i64 (n : Int), .slice A es.length c] 24 (0, 0))))
 case atStart => exact ⟨vs, D1, cp1, rfl, rfl, HL, HV, HR1, HBZ⟩
 case round =>
  obtain ⟨zs, D, cp, hgk, rfl, hzl, hzb, hzr, hB⟩ := hrel
  clear HR1 HBZ
  have hzZ := (Array.getElem?_eq_some_iff.1 hB.out.2).1
  obtain ⟨a0, a1, a2, _⟩ := at3 hB.out.2
  have HSz := hide (HS.out zs D cp wr hB.out.1 hzl.out hzb.out hzr.out)
  have HGK := hide hgk
  clear hgk
  go_wp2_with fail
  refine HSz.out.mono ?_
  rintro e W2 ⟨rfl, hI2, hB2⟩
  have HB2 := hide (HBx.out wr hB.out.1 hzZ hB.out.2 W2 hB2)
  have HR2 := hide (hzr.out.below hB2)
  obtain ⟨Q, hQ⟩ : ∃ Q, wr.heap.size + 1 = Q := ⟨_, rfl⟩
  have hDQ : D < Q := by
   obtain ⟨b, o, e, hb, _⟩ := hzr.out (by have := hzl.out; omega)
   simp only [Option.some.injEq, Addr.mk.injEq] at e
   omega
  have hZQ : Z < Q := by omega
  rw [hQ] at hI2 ⊢
  obtain ⟨S, hS⟩ : ∃ S, sumsF (fun k => zs.getD k 0) es = S := ⟨_, rfl⟩
  rw [hS] at hI2
  have HSS := hide hS
  have HI2 := hide (show IB W2 Q (rowI n (grM m (fun k => zs.getD k 0) S 0)) by rw [grM_zero]; exact hI2)
  have HNn := hide (fun k => hS ▸ sumsNn (v := fun k => zs.getD k 0) (n := n) (fun k hk => (hzb.out k hk).1) es HE.out k)
  have HSb := hide (fun k => hS ▸ (show (sumsF (fun k => zs.getD k 0) es k) ≤ 4194304 by
   have := sumsVle (v := fun k => zs.getD k 0) (n := n) (U := 4096) (fun k hk => by have := hzb.out k hk; show (zs.getD k 0).natAbs ≤ _; omega) es HE.out k
   have h2 : es.length * 4096 ≤ 1024 * 4096 := Nat.mul_le_mul_right _ hl
   omega))
  clear a0 a1 a2 hB hzr hB2 HSz hS hI2 hQ hzZ
  go_wp2_with fail
  go_loopw [16] (fun iv wr => ∃ i : Nat, i ≤ n ∧ iv = .int .i64 i ∧ Hid (IB wr Q (rowI n (grM m (fun k => zs.getD k 0) S i))) ∧ Hid (RowI wr (some ⟨D, 0, none⟩) zs) ∧ Hid (Below Z w wr ∧ wr.heap[Z]? = some (.cells #[.int .i64 L, .int .i64 (n : Int), .slice A es.length c] 24 (0, 0)))) (fun iv _ => n - (intOf iv).toNat)
  case atStart => exact ⟨0, Nat.zero_le _, rfl, HI2, HR2, HB2⟩
  case round =>
   obtain ⟨i, hi, rfl, HIi, HRi, HBi⟩ := hrel
   clear HI2 HR2 HB2
   by_cases hlt : i < n
   ·obtain ⟨b, o, hbo, hDl, hc⟩ := HRi.out (by have := hzl.out; omega)
    simp only [Option.some.injEq, Addr.mk.injEq, and_true] at hbo
    obtain ⟨rfl, rfl⟩ := hbo
    have z0 : wr.cell? ⟨D, i, none⟩ = some (.int .i64 (zs.getD i 0)) := by
     have := hc i (by have := hzl.out; omega)
     rw [Nat.zero_add] at this
     rw [this]
     simp [show i < zs.length by have := hzl.out; omega]
    have s0 := HIi.out.cell (k := i) (by rw [rowI_len]; exact hlt)
    rw [rowI_get _ hlt, grM_at] at s0
    have sf := HIi.out.free i
    have hzi := hzb.out i hlt
    have hsi := HNn.out i
    have HNx := hide (show (rowI n (grM m (fun k => zs.getD k 0) S i)).set i (min (zs.getD i 0) (S i / (m : Int))) = rowI n (grM m (fun k => zs.getD k 0) S (i + 1)) by
     rw [rowI_set]
     congr 1
     exact grM_succ m (fun k => zs.getD k 0) S i)
    obtain ⟨z, hz⟩ : ∃ z, zs.getD i 0 = z := ⟨_, rfl⟩
    obtain ⟨s, hs⟩ : ∃ s, S i = s := ⟨_, rfl⟩
    rw [hz] at z0 hzi HNx
    rw [hs] at s0 hsi HNx
    obtain ⟨y, hy⟩ : ∃ y, s / (m : Int) = y := ⟨_, rfl⟩
    have hy0 : 0 ≤ y := by rw [← hy]; exact Int.ediv_nonneg hsi (by omega)
    rw [hy] at HNx
    have hsb : s ≤ 4194304 := by have := HSb.out i; rw [hs] at this; omega
    have hq : wrap64 (s.tdiv (m : Int)) = y := by
     rw [Int.tdiv_eq_ediv_of_nonneg hsi, hy]
     have hys : y ≤ s := by rw [← hy]; exact Int.ediv_le_self _ hsi
     exact IntWalk.wrap64_in _ (by omega)
    have hi0 : (0 : Int) ≤ (i : Int) := by omega
    have hi1 : (i : Int) < (n : Int) := by omega
    have hmz : ((m : Int) == 0) = false := by rw [beq_eq_false_iff_ne]; omega
    have hmz2 : (m : Int) ≠ 0 := by omega
    clear hc hDl hz hs hsb
    go_wp2_with fail
    have HI9 := hide (show IB ((wr.setCell ⟨Q, i, none⟩ (.int .i64 (min z y))).drew) Q (rowI n (grM m (fun k => zs.getD k 0) S (i + 1))) from HNx.out ▸ HIi.out.set i (min z y))
    have HB9 := hide (show Below Z w ((wr.setCell ⟨Q, i, none⟩ (.int .i64 (min z y))).drew) ∧ ((wr.setCell ⟨Q, i, none⟩ (.int .i64 (min z y))).drew).heap[Z]? = some (.cells #[.int .i64 L, .int .i64 (n : Int), .slice A es.length c] 24 (0, 0)) from
     ⟨(HBi.out.1.setCell (p := ⟨Q, i, none⟩) (Nat.le_of_lt hZQ) _).drew, (Below.heap_setCell _ ⟨Q, i, none⟩ _ Z (by show Z ≠ Q; omega)).trans HBi.out.2⟩)
    have HR9 := hide (show RowI ((wr.setCell ⟨Q, i, none⟩ (.int .i64 (min z y))).drew) (some ⟨D, 0, none⟩) zs from fun h0 => by
     obtain ⟨b, o, e, h1, h2⟩ := HRi.out h0
     simp only [Option.some.injEq, Addr.mk.injEq, and_true] at e
     obtain ⟨rfl, rfl⟩ := e
     refine ⟨D, 0, rfl, by simpa [World.setCell] using h1, fun k hk => ?_⟩
     exact (World.cell?_of_block (Below.heap_setCell _ ⟨Q, i, none⟩ _ D (by show D ≠ Q; omega))).trans (h2 k hk))
    clear HNx HIi HBi HRi
    go_region_with (fail)
    all_goals (
     go_wp2
     go_roundw
     case rel => exact ⟨i + 1, hlt, by go_num, HI9, HR9, HB9⟩
     case measure => simp [intOf]; omega)
   ·obtain rfl : i = n := by omega
    have HQy := hide (fun q => HQ.out (rowI i (grM m (fun k => zs.getD k 0) S i)) zs Q D i cp (wr.drewN q) HIi.out.row HRi.out (rowI_len _ _) hzl.out)
    by_cases heq : rowI i (grM m (fun k => zs.getD k 0) S i) = zs
    ·have HF := hide (gr_fix (es := es) hm1 hzl.out hzb.out (by rw [HSS.out]; exact heq))
     have hd := decide_eq_true heq
     have HQ0 := hide (HQy.out 0)
     rw [hd] at HQ0
     clear HQy hd heq
     go_wp2_with fail
     refine HQ0.out.mono ?_
     rintro e W5 ⟨rfl, q, rfl⟩
     go_wp2
     go_ret
     exact ⟨zs, D, cp, rfl, HF.out, HRi.out, by rw [HZ.out]; exact belowN HBi.out.1 _⟩
    ·have HF := hide (gr_less (es := es) hm1 HE.out hzl.out hzb.out (by rw [HSS.out]; exact heq))
     have hd := decide_eq_false heq
     have HQ0 := hide (HQy.out 0)
     rw [hd] at HQ0
     clear HQy hd heq
     go_wp2_with fail
     refine HQ0.out.mono ?_
     rintro e W5 ⟨rfl, q, rfl⟩
     go_wp2
     rw [HSS.out] at HF
     go_roundg (sumN (fun k => (rowI i (grM m (fun k => zs.getD k 0) S i)).getD k 0) i)
     case measure => have := HF.out.2; have := HGK.out; omega
     case rel => exact ⟨_, Q, i, rfl, rfl, hide (rowI_len _ _), hide HF.out.1, hide HIi.out.row, hide ⟨belowN HBi.out.1 _, HBi.out.2⟩⟩
theorem cell_upR {w : World} {p : Addr} {v : Value} (h : w.cell? p = some v) (o : Obj) : (w.alloc o).cell? p = some v := (World.cell?_alloc_lt _ _ _ (World.block_lt_of_cell? _ _ h)).trans h
theorem m64_1 : ∀ n, n < 65 → bits .and .u64 ((n : Nat) : Int) 4294967295 = (n : Int) := by decide +kernel
theorem m64_2 : ∀ n, n < 65 → ((n : Nat) : Int) / 4294967296 = 0 := by decide +kernel
set_option maxHeartbeats 1000000 in
theorem bMul64_one (n : Nat) (hn : n ≤ 64) (w : World) :
  Calls Tryz.prog 128 #[.int .u64 1, .int .u64 (n : Int)] w fun e w' => e = .returned (.tuple #[.int .u64 0, .int .u64 (n : Int)]) ∧ w' = w := by
 have h1 := m64_1 n (by omega)
 have h2 := m64_2 n (by omega)
 have h3 : bits .and .u64 1 4294967295 = 1 := by decide +kernel
 have h4 : bits .and .u64 0 4294967295 = 0 := by decide +kernel
 have h5 : IntKind.u64.wrap (n : Int) = (n : Int) := IntWalk.u64_in _ (by omega)
 have h6 : IntKind.u64.wrap 0 = 0 := rfl
 go_enter Tryz.func128, Tryz.ntmps128
 go_wp2
 go_ret2
 exact ⟨rfl, rfl⟩
set_option maxHeartbeats 1000000 in
theorem bMul_one (n : Nat) (hn : n ≤ 64) (w : World) :
  Calls Tryz.prog 83 #[.int .u64 1, .int .u64 (n : Int)] w fun e w' => e = .returned (.tuple #[.int .u64 0, .int .u64 (n : Int)]) ∧ w' = w := by
 have H := hide (fun W => bMul64_one n hn W)
 go_enter Tryz.func83, Tryz.ntmps83
 go_wp2_with (go_at_call 128; refine (H.out _).mono ?_; rintro e w' ⟨rfl, rfl⟩)
 go_ret2
 exact ⟨rfl, rfl⟩
def repL (N : Nat) (k : Int) (c : Nat) : List Int := List.replicate c k ++ List.replicate (N - c) 0
theorem repL_all (N : Nat) (k : Int) : repL N k N = List.replicate N k := by simp [repL]
theorem repL_copy {N c m : Nat} {k : Int} (hc : c + m ≤ N) :
  (((repL N k c).map (Value.int .i64)).toArray.toList.take c ++ List.replicate m (Value.int .i64 k) ++ ((repL N k c).map (Value.int .i64)).toArray.toList.drop (c + m)) = (repL N k (c + m)).map (Value.int .i64) := by
 simp only [repL, List.map_append, List.map_replicate, List.toList_toArray]
 rw [List.take_left' (by simp), List.drop_append, List.append_assoc]
 simp only [List.length_replicate]
 rw [List.drop_eq_nil_of_le (by simp), List.nil_append, List.drop_replicate, ← List.append_assoc, List.replicate_append_replicate]
 congr 2
 omega
theorem sizeIntA : (Tryz.prog.info? 3).map (·.size) = some 1 := by kernel_rfl
theorem run_rep (W : World) (Z N c m : Nat) (k : Int) (sa : Addr) (sLen sCap dCap : Nat) (hI : IB W Z (repL N k c)) (hm : m = Nat.min sLen (N - c)) (hc : c + m ≤ N) (hsrc : ∀ j, j < m → W.cell? (sa.add j) = some (.int .i64 k)) :
  (Builtin.copy_ #[31, 31] 3 #[.slice (some ⟨Z, c, none⟩) (N - c) dCap, .slice (some sa) sLen sCap]).run Tryz.prog W = .ok (.int .i64 m) (W.setRow Z ((repL N k (c + m)).map (Value.int .i64)).toArray) := by
 have h := run_copy_row (P := Tryz.prog) W 31 31 3 3 Z c (N - c) dCap sa sLen sCap (((repL N k c).map (Value.int .i64)).toArray) 3 (List.replicate m (.int .i64 k)) Tryz.underlying31 sizeIntA hI (by simpa using hm) (by
   intro j v hj
   have hjm : j < m := by
    rcases Nat.lt_or_ge j m with h | h
    ·exact h
    ·rw [List.getElem?_eq_none (by simpa using h)] at hj; cases hj
   rw [List.getElem?_eq_getElem (by simpa using hjm)] at hj
   simp at hj
   rw [hsrc j hjm, hj]) (by simp [repL]; omega) (by intro v hv; rw [(List.mem_replicate.1 hv).2]; rfl)
 rw [List.length_replicate, repL_copy hc] at h
 exact h
theorem repL_cell {W : World} {Z N c : Nat} {k : Int} (hI : IB W Z (repL N k c)) {j : Nat} (hj : j < c) (hc : c ≤ N) : W.cell? ⟨Z, j, none⟩ = some (.int .i64 k) := by
 rw [hI.cell (by simp [repL]; omega)]
 congr 2
 simp only [repL, List.getD_eq_getElem?_getD]
 rw [List.getElem?_append_left (by simpa using hj)]
 simp [hj]
set_option maxRecDepth 100000 in
set_option maxHeartbeats 2000000 in
theorem slRepI_any (N : Nat) (hN : N ≤ 64) (k : Int) (b : Nat) (w : World) (hb : w.cell? ⟨b, 0, none⟩ = some (.int .i64 k)) :
  Calls Tryz.prog 31 #[.slice (some ⟨b, 0, none⟩) 1 1, .int .i64 (N : Int)] w fun e w' => ∃ G, e = .returned (.slice (some ⟨G, 0, none⟩) N N) ∧ IB w' G (List.replicate N k) ∧ w.heap.size ≤ G ∧ Below w.heap.size w w' := by
 have HM := hide (fun W => bMul_one N hN W)
 have hmk := fun W => run_make_zs N (by omega) W
 have hI0 := hide (IB.zero w N)
 have hB0 := hide ((Below.refl _ w).alloc (Nat.le_refl _) (.cells (Array.replicate N (.int .i64 0)) 3))
 have hb0 : (w.alloc (.cells (Array.replicate N (.int .i64 0)) 3)).cell? ⟨b, 0, none⟩ = some (.int .i64 k) := cell_upR hb _
 have hsi : (Tryz.prog.info? 3).map (·.size) = some 1 := by kernel_rfl
 have hbig : decide ((9223372036854775807 : Int) < (N : Int)) = false := decide_eq_false (by omega)
 by_cases hN0 : N = 0
 ·subst hN0
  have hmk0 : ∀ W, (Instr.makeSlice 31 (.int .i64 0) (.int .i64 0)).run Tryz.prog W = .ok (.slice (some ⟨W.heap.size, 0, none⟩) 0 0) (W.alloc (.cells (Array.replicate 0 (.int .i64 0)) 3)) := fun W => hmk W
  have hrun := fun W => run_copy_none (P := Tryz.prog) W 31 31 3 3 (some ⟨w.heap.size, 0, none⟩) (some ⟨b, 0, none⟩) 0 0 1 1 Tryz.underlying31 hsi (by decide)
  go_enter Tryz.func31, Tryz.ntmps31
  go_wp2_with (go_at_call 83; refine (HM.out _).mono ?_; rintro e w' ⟨rfl, hw⟩; rw [hw]; clear hw)
  go_loopg [8] 0 (fun gk iv wr => gk = 0 ∧ iv = .int .i64 0 ∧ wr = w.alloc (.cells (Array.replicate 0 (.int .i64 0)) 3))
  go_wp2
  go_ret
  exact ⟨w.heap.size, rfl, hI0.out, Nat.le_refl _, hB0.out⟩
 ·have hrun : (Builtin.copy_ #[31, 31] 3 #[.slice (some ⟨w.heap.size, 0, none⟩) N N, .slice (some ⟨b, 0, none⟩) 1 1]).run Tryz.prog (w.alloc (.cells (Array.replicate N (.int .i64 0)) 3)) = .ok (.int .i64 1) ((w.alloc (.cells (Array.replicate N (.int .i64 0)) 3)).setRow w.heap.size ((repL N k 1).map (Value.int .i64)).toArray) :=
   run_rep _ w.heap.size N 0 1 k ⟨b, 0, none⟩ 1 1 N (by simpa [repL] using hI0.out) (show 1 = min 1 (N - 0) by omega) (by omega) (fun j hj => by
    obtain rfl : j = 0 := by omega
    exact hb0)
  have HB2 := hide (show Below w.heap.size w ((w.alloc (.cells (Array.replicate N (.int .i64 0)) 3)).setRow w.heap.size ((repL N k 1).map (Value.int .i64)).toArray) from below_setRow hB0.out (Nat.le_refl _) _)
  have HI2 := hide (show IB ((w.alloc (.cells (Array.replicate N (.int .i64 0)) 3)).setRow w.heap.size ((repL N k 1).map (Value.int .i64)).toArray) w.heap.size (repL N k 1) from setRow_heap _ w.heap.size _ _ 3 _ hI0.out)
  clear hb0
  go_enter Tryz.func31, Tryz.ntmps31
  go_wp2_with (go_at_call 83; refine (HM.out _).mono ?_; rintro e w' ⟨rfl, hw⟩; rw [hw]; clear hw)
  generalize (w.alloc (.cells (Array.replicate N (.int .i64 0)) 3)).setRow w.heap.size ((repL N k 1).map (Value.int .i64)).toArray = W2 at HB2 HI2 ⊢
  obtain ⟨Z, hZ⟩ : ∃ Z, w.heap.size = Z := ⟨_, rfl⟩
  rw [hZ] at HB2 HI2 ⊢
  have HZ := hide hZ
  clear hrun hZ hmk hI0 hB0 HM
  go_loopw [8] (fun iv wr => ∃ c : Nat, 1 ≤ c ∧ c ≤ N ∧ iv = .int .i64 c ∧ Hid (IB wr Z (repL N k c)) ∧ Hid (Below Z w wr)) (fun iv _ => N - (intOf iv).toNat)
  case atStart => exact ⟨1, Nat.le_refl _, by omega, rfl, HI2, HB2⟩
  case round =>
   obtain ⟨c, hc1, hcN, rfl, HI, HB⟩ := hrel
   clear HI2 HB2
   by_cases hlt : c < N
   ·obtain ⟨m, hm⟩ : ∃ m, m = Nat.min c (N - c) := ⟨_, rfl⟩
    have hm' : m = min c (N - c) := hm
    have hm1 : 1 ≤ m := by omega
    have hcm : c + m ≤ N := by omega
    have hrun := run_rep wr.drew Z N c m k ⟨Z, 0, none⟩ c N (N - c) HI.out hm hcm (fun j hj => by
     have := repL_cell (W := wr.drew) (j := j) HI.out (by omega) hcN
     unfold Addr.add
     cases j <;> simpa using this)
    have HI3 := hide (show IB (wr.drew.setRow Z ((repL N k (c + m)).map (Value.int .i64)).toArray) Z (repL N k (c + m)) from setRow_heap _ Z _ _ 3 _ HI.out)
    have HB3 := hide (below_setRow HB.out.drew (Nat.le_refl Z) ((repL N k (c + m)).map (Value.int .i64)).toArray)
    have hc0 : (0 : Int) ≤ (c : Int) := by omega
    have hc2 : (c : Int) < (N : Int) := by omega
    have hw : IntKind.i64.wrap ((c : Int) + (m : Int)) = (c : Int) + (m : Int) := IntWalk.i64_in _ (by omega)
    clear hm hm'
    go_wp2_with fail
    go_region_with (fail)
    all_goals (
     simp only [Act.put, List.setIfInBounds_toArray, List.set_cons_zero, List.set_cons_succ, List.getElem_toArray, List.getElem_cons_zero, List.getElem_cons_succ]
     go_wp2
     go_roundw
     case rel => exact ⟨c + m, by omega, hcm, by go_num, HI3, HB3⟩
     case measure => simp [intOf]; omega)
   ·obtain rfl : c = N := by omega
    have HI3 := hide (show IB wr Z (List.replicate c k) from repL_all c k ▸ HI.out)
    go_wp2
    go_ret
    exact ⟨Z, rfl, HI3.out, by rw [HZ.out]; exact Nat.le_refl _, by rw [HZ.out]; exact HB.out⟩
def SchV (n m : Nat) (es : List Edg) : Prop := ∃ zs, GrOk n m es zs ∧ zerV zs = false
set_option maxRecDepth 100000 in
set_option maxHeartbeats 2000000 in
theorem evSearch_any (L : Int) (n m most : Nat) (es : List Edg) (A : Option Addr) (c : Nat) (w : World) (hn0 : 0 < n) (hG : okG L (n : Int) es = true) (hm1 : 1 ≤ m) (hm2 : m ≤ 256) (ht1 : 1 ≤ most) (ht2 : most ≤ 4096) (hr : RowE w A es) :
  Calls Tryz.prog 10 #[.agg #[.int .i64 L, .int .i64 (n : Int), .slice A es.length c], .int .i64 (m : Int), .int .i64 (most : Int)] w fun e w' => ∃ (v : Value) (r : Int), e = .returned (.tuple #[v, .int .i64 r]) ∧ (r = 15 ∨ r = 0 ∧ SchV n m es) ∧ Below w.heap.size w w' := by
 obtain ⟨Z, hZ⟩ : ∃ Z, w.heap.size = Z := ⟨_, rfl⟩
 have HZ := hide hZ
 obtain ⟨_, hn', hl⟩ := okG_size hG
 have hn : n ≤ 64 := by omega
 have he := okG_in hG (n := n) rfl
 have hB0 : Below Z w (w.alloc (.cells #[.int .i64 L, .int .i64 (n : Int), .slice A es.length c] 24)) := by rw [← hZ]; exact (Below.refl _ w).alloc (Nat.le_refl _) _
 have hb0 : (w.alloc (.cells #[.int .i64 L, .int .i64 (n : Int), .slice A es.length c] 24)).heap[Z]? = some (.cells #[.int .i64 L, .int .i64 (n : Int), .slice A es.length c] 24 (0, 0)) := hZ ▸ heap_alloc_new w _
 have HBx := hide (fun W (h : Below Z w W) (hz : Z < W.heap.size) (h0 : W.heap[Z]? = some (.cells #[.int .i64 L, .int .i64 (n : Int), .slice A es.length c] 24 (0, 0))) W' (h' : Below W.heap.size W W') => show Below Z w W' ∧ W'.heap[Z]? = some (.cells #[.int .i64 L, .int .i64 (n : Int), .slice A es.length c] 24 (0, 0)) from ⟨h.trans (h'.mono (Nat.le_of_lt hz)), (h'.block Z hz).trans h0⟩)
 have HW := hide (fun W (h : Below Z w W) => evWhole_any L (n : Int) (m : Int) es A c W (hr.below (h.mono (Nat.le_of_eq hZ))))
 have HGt := hide (fun (g : Nat) (k : Int) W (h : Below Z w W) (hk : 0 ≤ k ∧ k ≤ 4096) (hv : IB W g (List.replicate n k)) => evGreat_any L n m es A c g (List.replicate n k) W hn0 hn hm1 hm2 hl he (hr.below (h.mono (Nat.le_of_eq hZ))) (by simp) hv (fun j hj => by simp [hj]; omega))
 have HRp := hide (fun (k : Int) (b : Nat) W (h : W.cell? ⟨b, 0, none⟩ = some (.int .i64 k)) => slRepI_any n hn k b W h)
 have HZe := hide (fun (zs : List Int) (D cp : Nat) W (hzl : zs.length = n) (h : RowI W (some ⟨D, 0, none⟩) zs) => show Calls Tryz.prog 32 #[.slice (some ⟨D, 0, none⟩) n cp] W (fun e w' => e = .returned (.bool (zerV zs)) ∧ Below W.heap.size W w') from hzl ▸ evZero_any zs (some ⟨D, 0, none⟩) cp W (by omega) h)
 have hM : okM (m : Int) = true := by unfold okM; rw [decide_eq_true (by omega), decide_eq_true (by omega)]; rfl
 rw [hG, hM] at HW
 clear hr hZ hG hM he hn'
 go_enter Tryz.func10, Tryz.ntmps10
 go_wp2_with fail
 try rw [HZ.out]
 have hzl : Z < (w.alloc (.cells #[.int .i64 L, .int .i64 (n : Int), .slice A es.length c] 24)).heap.size := by rw [← HZ.out]; simp
 generalize w.alloc (.cells #[.int .i64 L, .int .i64 (n : Int), .slice A es.length c] 24) = W0 at hB0 hb0 hzl ⊢
 (with_reducible refine (HW.out W0 hB0).mono ?_)
 rintro e W1 ⟨r, rfl, hr0, hB1⟩
 obtain rfl : r = 0 := by simpa using hr0
 have HB1 := hide (HBx.out W0 hB0 hzl hb0 W1 hB1)
 have d1 : decide ((most : Int) < 1) = false := decide_eq_false (by omega)
 have d2 : decide ((4096 : Int) < (most : Int)) = false := decide_eq_false (by omega)
 clear hB0 hb0 hzl hB1 HW hr0
 go_wp2_with fail
 go_loopw [9] (fun iv wr => ∃ k : Nat, 1 ≤ k ∧ k ≤ most + 1 ∧ iv = .int .i64 k ∧ Hid (Below Z w wr ∧ wr.heap[Z]? = some (.cells #[.int .i64 L, .int .i64 (n : Int), .slice A es.length c] 24 (0, 0)))) (fun iv _ => most + 1 - (intOf iv).toNat)
 case atStart => exact ⟨1, Nat.le_refl _, by omega, rfl, HB1⟩
 case round =>
  obtain ⟨k, hk1, hk, rfl, hB⟩ := hrel
  clear HB1
  by_cases hlt : k ≤ most
  ·have hk2 : (k : Int) ≤ (most : Int) := by omega
   obtain ⟨a0, a1, a2, _⟩ := at3 hB.out.2
   have hzz := (Array.getElem?_eq_some_iff.1 hB.out.2).1
   have hAl : Below wr.heap.size wr ((wr.alloc (.cells #[.int .i64 (k : Int)] 3)).drew) := ((Below.refl _ wr).alloc (Nat.le_refl _) _).drew
   have hBk := HBx.out wr hB.out.1 hzz hB.out.2 _ hAl
   have hck : ((wr.alloc (.cells #[.int .i64 (k : Int)] 3)).drew).cell? ⟨wr.heap.size, 0, none⟩ = some (.int .i64 (k : Int)) := (cell_of_row _ _ 0 _ _ _ (heap_alloc_new wr _)).trans rfl
   have HBk := hide hBk
   have HRk := hide (HRp.out (k : Int) wr.heap.size _ hck)
   have hzk := (Array.getElem?_eq_some_iff.1 hBk.2).1
   clear hAl hck hBk
   go_wp2_with fail
   obtain ⟨s0, s1, s2, _⟩ := at3 HBk.out.2
   have e0 : wr.drew.cell? ⟨Z, 0, none⟩ = some (.int .i64 L) := a0
   have e1 : wr.drew.cell? ⟨Z, 1, none⟩ = some (.int .i64 (n : Int)) := a1
   have e2 : wr.drew.cell? ⟨Z, 2, none⟩ = some (.slice A es.length c) := a2
   go_region_held3 (fun W => W.cell? ⟨Z, 0, none⟩ = some (.int .i64 L) ∧ W.cell? ⟨Z, 1, none⟩ = some (.int .i64 (n : Int)) ∧ W.cell? ⟨Z, 2, none⟩ = some (.slice A es.length c))
    (first | with_reducible exact ⟨s0, s1, s2⟩ | with_reducible exact ⟨e0, e1, e2⟩)
    (first
     | (go_at_call 31; with_reducible refine HRk.out.mono ?_; rintro e W3 ⟨G, rfl, hI3, hG3, hB3⟩; have HB3 := hide (HBx.out _ HBk.out.1 hzk HBk.out.2 W3 hB3); have hz3 := (Array.getElem?_eq_some_iff.1 HB3.out.2).1; have HG3 := hide (HGt.out G (k : Int) W3 HB3.out.1 ⟨by omega, by omega⟩ hI3); clear s0 s1 s2; obtain ⟨s0, s1, s2, _⟩ := at3 HB3.out.2)
     | (go_at_call 30; with_reducible refine HG3.out.mono ?_; rintro e W4 ⟨zs, D, cp, rfl, hgr, hzr, hB4⟩; have HB4 := hide (HBx.out W3 HB3.out.1 hz3 HB3.out.2 W4 hB4); clear s0 s1 s2; obtain ⟨s0, s1, s2, _⟩ := at3 HB4.out.2))
   have HZx := hide (HZe.out zs D cp W4 hgr.1 hzr)
   have HGr := hide hgr
   clear s0 s1 s2 a0 a1 a2 e0 e1 e2 hgr hzr hB4 hI3 hB3
   cases hzv : zerV zs
   ·rw [hzv] at HZx
    have HV := hide hzv
    clear hzv
    go_wp2_with fail
    (with_reducible refine HZx.out.mono ?_)
    rintro e W5 ⟨rfl, hB5⟩
    have HB5 := hide (HBx.out W4 HB4.out.1 (Array.getElem?_eq_some_iff.1 HB4.out.2).1 HB4.out.2 W5 hB5)
    clear hB5
    go_wp2
    go_ret2
    exact ⟨_, 0, rfl, .inr ⟨rfl, zs, HGr.out, HV.out⟩, by rw [HZ.out]; exact HB5.out.1⟩
   ·rw [hzv] at HZx
    clear hzv
    go_wp2_with fail
    (with_reducible refine HZx.out.mono ?_)
    rintro e W5 ⟨rfl, hB5⟩
    have HB5 := hide (HBx.out W4 HB4.out.1 (Array.getElem?_eq_some_iff.1 HB4.out.2).1 HB4.out.2 W5 hB5)
    clear hB5
    go_wp2
    go_roundw
    case rel => exact ⟨k + 1, by omega, by omega, by go_num, HB5⟩
    case measure => simp [intOf]; omega
  ·obtain rfl : k = most + 1 := by omega
   have d3 : decide (((most + 1 : Nat) : Int) ≤ (most : Int)) = false := decide_eq_false (by omega)
   go_wp2
   go_ret2
   exact ⟨_, 15, rfl, .inl rfl, by rw [HZ.out]; exact hB.out.1⟩
theorem getDq {α : Type} {xs : List α} {k : Nat} (d : α) (h : k < xs.length) : xs.getD k d = xs[k] := by simp [List.getD, h]
theorem eigB_parts {L S m : Int} {es : List Edg} {vs : List Int} (h : eigB L S m es vs = true) : okG L S es = true ∧ okW S m vs = true ∧ (∃ k, k < vs.length ∧ vecF vs k ≠ 0) ∧ ∀ k, k < vs.length → m * vecF vs k ≤ sumsF (vecF vs) es k := by
 unfold eigB at h
 simp only [Bool.and_eq_true, Bool.not_eq_true'] at h
 obtain ⟨⟨⟨h1, h2⟩, h3⟩, h4⟩ := h
 refine ⟨h1, h2, ?_, fun k hk => ?_⟩
 ·unfold zerV at h3
  rw [List.all_eq_false] at h3
  obtain ⟨x, hx, hx0⟩ := h3
  obtain ⟨k, hk, rfl⟩ := List.getElem_of_mem hx
  refine ⟨k, hk, fun h => hx0 ?_⟩
  unfold vecF at h
  rw [getDq _ hk] at h
  rw [h]; rfl
 ·have := List.all_eq_true.1 h4 k (List.mem_range.2 hk)
  unfold eigAt at this
  exact of_decide_eq_true this
theorem ref_no_eig {L S m : Int} {es : List Edg} {vs : List Int} {n : Nat} {u : Nat → Int} (hn : (n : Int) = S) (hr : refB n es m u = true) (h : eigB L S m es vs = true) : False := by
 obtain ⟨h1, h2, ⟨k, hk, hk0⟩, h4⟩ := eigB_parts h
 obtain ⟨_, _, hl, hv⟩ := okW_parts h2
 have hl' : vs.length = n := by omega
 exact ref_eig_no (v := vecF vs) (okG_in h1 (n := n) hn.symm) hr (fun k hk => (hv k (by omega)).1) (fun k hk => h4 k (by omega)) ⟨k, by omega, hk0⟩
theorem ref_no_sch {n m : Nat} {es : List Edg} {u : Nat → Int} (he : ∀ e ∈ es, inE n e) (hr : refB n es m u = true) (h : SchV n m es) : False := by
 obtain ⟨zs, ⟨hl, hb, hs⟩, hz⟩ := h
 refine ref_eig_no (v := fun k => zs.getD k 0) he hr (fun k hk => (hb k hk).1) hs ?_
 unfold zerV at hz
 rw [List.all_eq_false] at hz
 obtain ⟨x, hx, hx0⟩ := hz
 obtain ⟨k, hk, rfl⟩ := List.getElem_of_mem hx
 refine ⟨k, by omega, fun h => hx0 ?_⟩
 rw [getDq _ hk] at h
 rw [h]; rfl
theorem sums_nn {u : Nat → Int} {n : Nat} (hu : ∀ t, t < n → 0 ≤ u t) (s : Nat) (es : List Edg) (he : ∀ e ∈ es, inE n e) : 0 ≤ sumsF u es s := by
 have := sums_cmp (u := u) (v := fun _ => 0) (a := 0) (b := 1) (n := n) (fun t ht => by have := hu t ht; omega) s es he
 omega
theorem rate_no {L S pl m : Int} {es ps : List Edg} {xs vs : List Int} {n : Nat} {u : Nat → Int} (hn : (n : Int) = S) (hG : okG L S es = true) (hs : setE S xs = 0) (hk : KpR xs ps es) (hb : baseB pl xs.length m ps vs = true) (hr : refB n es m u = true) : False := by
 have hE : eigB pl xs.length m ps vs = true := by
  unfold baseB at hb
  rw [Bool.and_eq_true] at hb
  exact hb.1
 obtain ⟨h1, h2, ⟨k, hk0, hk1⟩, h4⟩ := eigB_parts hE
 obtain ⟨hm1, _, hl, hv⟩ := okW_parts h2
 have hl' : vs.length = xs.length := by omega
 have hvn : ∀ k, k < xs.length → 0 ≤ vecF vs k := fun k hk => (hv k (by omega)).1
 have hin := okG_in hG (n := n) hn.symm
 refine ref_eig_no (v := liftV xs (vecF vs)) hin hr (fun s _ => lift_nn hvn s) (fun s hsn => ?_) ?_
 ·by_cases hx : ∃ i, i < xs.length ∧ xs.getD i 0 = (s : Int)
  ·obtain ⟨i, hi, he⟩ := hx
   have g1 := lift_sums hs hvn hk hi
   have g2 := lift_at hs (vecF vs) hi
   rw [he, Int.toNat_natCast] at g1 g2
   rw [g2]
   have := h4 i (by omega)
   omega
  ·rw [lift_no (fun k hk e => hx ⟨k, hk, e⟩), Int.mul_zero]
   exact sums_nn (n := n) (fun t _ => lift_nn hvn t) s es hin
 ·have g := set_in hs (show k < xs.length by omega)
  refine ⟨(xs.getD k 0).toNat, by omega, ?_⟩
  rw [lift_at hs (vecF vs) (by omega)]
  exact hk1
set_option maxRecDepth 100000 in
set_option maxHeartbeats 2000000 in
theorem long23_any (k : Nat) (P : Option Addr) (cv : Nat) (nb : Nat → Bool) (mb : Nat → ByteArray) (w : World) (hP : AIs w P k nb mb) (hk : k ≤ 9223372036854775807) :
  Calls Tryz.prog 5 #[.slice P k cv] w fun e w' => IsQ (fun b => b = false → k ≤ 10 ∧ ∀ i, i < k → (mb i).size ≤ 16) e ∧ w' = w := by
 have HP := hide hP
 clear hP
 go_enter Tryz.func5, Tryz.ntmps5
 go_wp2
 go_loopw [3] (fun iv wr => ∃ i : Nat, iv = .int .i64 i ∧ i ≤ k ∧ Hid (∀ j, j < i → (mb j).size ≤ 16) ∧ wr = w) (fun iv _ => k - (intOf iv).toNat)
 case atStart => exact ⟨0, rfl, Nat.zero_le _, hide fun j h => absurd h (by omega), rfl⟩
 case round =>
  obtain ⟨i, rfl, hi, HJ, rfl⟩ := hrel
  by_cases hlt : i < k
  ·obtain ⟨g, o, rfl, hg, hc⟩ := HP.out (by omega)
   have y1 := (hc i hlt).2
   have hi0 : (0 : Int) ≤ (i : Int) := by omega
   have hi1 : (i : Int) < (k : Int) := by omega
   by_cases h16 : 16 < (mb i).size
   ·have d1 : decide ((16 : Int) < ((mb i).size : Int)) = true := by simp; omega
    have d2 : decide (16 < (mb i).size) = true := by simp; omega
    clear hc
    go_wp2
    go_ret
    exact ⟨⟨true, rfl, fun h => by cases h⟩, rfl⟩
   ·have d1 : decide ((16 : Int) < ((mb i).size : Int)) = false := by simp; omega
    have d2 : decide (16 < (mb i).size) = false := by simp; omega
    have HJ2 := hide (show ∀ j, j < i + 1 → (mb j).size ≤ 16 from fun j hj => by
     by_cases e : j = i
     ·subst e; omega
     ·exact HJ.out j (by omega))
    clear hc
    go_wp2
    go_roundw
    case rel => exact ⟨i + 1, by go_num, hlt, HJ2, by trivial⟩
    case measure => simp [intOf]; omega
  ·obtain rfl : i = k := by omega
   by_cases h10 : 10 < i
   ·have d1 : decide ((10 : Int) < (i : Int)) = true := by simp; omega
    have d2 : decide (10 < i) = true := by simp; omega
    go_wp2
    go_ret
    exact ⟨⟨true, rfl, fun h => by cases h⟩, rfl⟩
   ·have d1 : decide ((10 : Int) < (i : Int)) = false := by simp; omega
    have d2 : decide (10 < i) = false := by simp; omega
    go_wp2
    go_ret
    exact ⟨⟨false, rfl, fun _ => ⟨by omega, HJ.out⟩⟩, rfl⟩
end Go.Proofs.YtbnpjoiojhnimaaGreatDoor
namespace Go.Proofs.YtbnpjoiojhnimaaGreatDoor
open Go.RowKit Go.Shelf
section
attribute [local go_sem] Oper.semAt_some
set_option maxHeartbeats 1000000 in
theorem readings_in (q : Int) (A : Option Addr) (n c : Nat) (s : ByteArray) (w : World) :
  Calls Tryz.prog 115 #[.agg #[.int .i64 q, .slice A n c], .string s] w fun e w' => e = .returned (.func (.func 176) #[] #[.pointer (some ⟨w.heap.size + 1, 0, none⟩), .pointer (some ⟨w.heap.size, 0, none⟩)]) ∧ w' = (w.alloc (.cells #[.int .i64 q, .slice A n c] 27)).alloc (.cells #[.string s] 9) := by
 go_enter Tryz.func115, Tryz.ntmps115
 go_wp2
 go_ret
 exact ⟨rfl, rfl⟩
theorem infoBoolZ : (Tryz.prog.info? 4).map (fun i => (i.zero, i.size, i.bytes)) = some (some (.bool false), 1, 1) := by kernel_rfl
theorem run_make_bools (n : Nat) (hn : n ≤ 70000) (w : World) :
  (Instr.makeSlice 232 (.int .i64 (n : Int)) (.int .i64 (n : Int))).run Tryz.prog w = .ok (.slice (some ⟨w.heap.size, 0, none⟩) n n) (w.alloc (.cells (Array.replicate n (.bool false)) 4)) := by
 obtain ⟨i0, hi, hz0, hz1, hz2⟩ := info_parts infoBoolZ
 have h := run_make (P := Tryz.prog) w 232 4 i0 _ Tryz.underlying232 hi hz0 .i64 .i64 n n (by omega) (by omega) (by rw [hz2]; omega) (by omega)
 simp only [Int.toNat_natCast, hz1, Nat.mul_one] at h
 rw [h, made_one _ rfl, List.toArray_replicate]
def okTab (ok : Nat → Bool) (i j : Nat) : Bool := if i ≤ j then ok j else false
structure RdW (N l bw Zc cap : Nat) (s : ByteArray) (A : Option Addr) (xs : List ByteArray) (ok : Nat → Bool) (J : List RdX → World → Prop) (i : Nat) (W : World) : Prop where
 size : N + 3 ≤ W.heap.size
 w : W.cell? ⟨bw, 0, none⟩ = some (.string s)
 y : W.cell? ⟨N, 0, none⟩ = some (.func (.yield l) #[] #[])
 c : W.cell? ⟨Zc, 1, none⟩ = some (.slice A xs.length cap)
 row : RowT W A xs
 o : W.cell? ⟨N + 1 + 1, 0, none⟩ = some (.slice (some ⟨N + 1, 0, none⟩) (s.size + 1) (s.size + 1))
 k : ∀ j, j ≤ s.size → W.cell? ⟨N + 1, j, none⟩ = some (.bool (okTab ok i j)) ∧ W.frozen? ⟨N + 1, j, none⟩ = false
 j : J [] W
theorem grown_setO (w : World) (b o : Nat) (v : Value) : w.grownBy (w.setCell ⟨b, o, none⟩ v) (some b) :=
 ⟨rfl, rfl, rfl, by simp [World.setCell], fun k _ hne => Below.heap_setCell w ⟨b, o, none⟩ v k (by simpa using hne)⟩
theorem RdW.grown {N l bw Zc cap : Nat} {s : ByteArray} {A : Option Addr} {xs : List ByteArray} {ok : Nat → Bool} {J : List RdX → World → Prop} {i : Nat} {W W' : World} {row : Option Nat} (h : RdW N l bw Zc cap s A xs ok J i W) (hJ : AbidesB N blkR J)
  (hg : W.grownBy W' row) (hb : bw < N) (hc : Zc < N) (hA : ∀ a, A = some a → a.block < N) (hr : ∀ r, row = some r → N + 3 ≤ r ∧ ∃ o : Obj, W.heap[r]? = some o ∧ o.isCells = true) : RdW N l bw Zc cap s A xs ok J i W' := by
 have hne : ∀ k, k < N + 3 → some k ≠ row := fun k hk e => by have := (hr k e.symm).1; omega
 refine ⟨Nat.le_trans h.size hg.size, hg.cell h.w (hne _ (by show bw < _; omega)), hg.cell h.y (hne _ (by show N < _; omega)), hg.cell h.c (hne _ (by show Zc < _; omega)), fun h0 => ?_, hg.cell h.o (hne _ (by show N + 1 + 1 < _; omega)), fun j hj => ⟨hg.cell (h.k j hj).1 (hne _ (by show N + 1 < _; omega)), ?_⟩, hJ _ _ _ _ h.j hg fun r e => ?_⟩
 ·obtain ⟨b, o, rfl, hbl, hcell⟩ := h.row h0
  have := hA _ rfl
  exact ⟨b, o, rfl, Nat.lt_of_lt_of_le hbl hg.size, fun k hk => hg.cell (hcell k hk) (hne _ (by show b < _; have : b < N := this; omega))⟩
 ·exact (World.frozen?_of_block (hg.block (N + 1) (by have := h.size; omega) (hne _ (by omega)))).trans (h.k j hj).2
 ·obtain ⟨h1, o, h2, h3⟩ := hr r e
  exact ⟨by omega, o, h2, .inr ⟨h3, fun x hx => nomatch hx⟩⟩
theorem RowT.kept3 {w w' : World} {A : Option Addr} {xs : List ByteArray} (h : RowT w A xs) (hg : w.grownBy w' none) : RowT w' A xs := by
 intro h0
 obtain ⟨b, o, rfl, hb, hc⟩ := h h0
 exact ⟨b, o, rfl, Nat.lt_of_lt_of_le hb hg.size, fun k hk => hg.cell (hc k hk) (by simp)⟩
theorem RdW.store {N l bw Zc cap : Nat} {s : ByteArray} {A : Option Addr} {xs : List ByteArray} {ok : Nat → Bool} {J : List RdX → World → Prop} {i : Nat} {W : World} (h : RdW N l bw Zc cap s A xs ok J (i + 1) W) (hJ : AbidesB N blkR J) (hi : i ≤ s.size)
  (hb : bw < N) (hc : Zc < N) (hA : ∀ a, A = some a → a.block < N) : RdW N l bw Zc cap s A xs ok J i (W.setCell ⟨N + 1, i, none⟩ (.bool (ok i))) := by
 have hg := grown_setO W (N + 1) i (.bool (ok i))
 have hne : ∀ k, k ≠ N + 1 → some k ≠ some (N + 1) := fun k hk e => hk (Option.some.inj e)
 refine ⟨Nat.le_trans h.size hg.size, hg.cell h.w (hne _ (by show bw ≠ _; omega)), hg.cell h.y (hne _ (by show N ≠ _; omega)), hg.cell h.c (hne _ (by show Zc ≠ _; omega)), fun h0 => ?_, hg.cell h.o (hne _ (by show N + 1 + 1 ≠ _; omega)), fun j hj => ⟨?_, ?_⟩, hJ _ _ _ _ h.j hg fun r e => ?_⟩
 ·obtain ⟨b, o, rfl, hbl, hcell⟩ := h.row h0
  have := hA _ rfl
  exact ⟨b, o, rfl, Nat.lt_of_lt_of_le hbl hg.size, fun k hk => hg.cell (hcell k hk) (hne _ (by show b ≠ _; have : b < N := this; omega))⟩
 ·by_cases e : j = i
  ·subst e
   rw [okTab, if_pos (Nat.le_refl _)]
   exact World.cell?_setCell_same _ _ _ (h.k j hj).1
  ·rw [World.cell?_setCell_other _ _ _ _ (fun e2 => by cases e2; exact e rfl), (h.k j hj).1]
   unfold okTab
   by_cases e2 : i ≤ j
   ·rw [if_pos e2, if_pos (by omega)]
   ·rw [if_neg e2, if_neg (by omega)]
 ·rw [World.frozen?_setCell]; exact (h.k j hj).2
 ·cases e
  obtain ⟨o1, ho1, hc2⟩ := cells_of_cell (h.k i hi).1
  exact ⟨by omega, o1, ho1, .inr ⟨hc2, fun x hx => nomatch hx⟩⟩
theorem any_getD {xs : List ByteArray} (f : ByteArray → Bool) : (List.range xs.length).any (fun k => f (xs.getD k ⟨#[]⟩)) = xs.any f := by
 induction xs with
 | nil => rfl
 | cons x xs ih =>
  rw [List.length_cons, List.range_succ_eq_map, List.any_cons, List.any_cons, List.any_map, ← ih]
  rfl
def ptrI (v : Value) (w : World) : Nat := match v with
 | .pointer (some a) => (intOf ((w.cell? a).getD undef) + 1).toNat
 | _ => 0
set_option maxRecDepth 100000 in
set_option maxHeartbeats 4000000 in
theorem readingsf_in (n l bw Zc cap : Nat) (s : ByteArray) (A : Option Addr) (xs : List ByteArray) (ok : Nat → Bool) (rd : Nat → List (List Int)) (hRd : RdG xs s ok rd) (hxn : xs.length ≤ 64) (hx0 : 0 < xs.length) (hss : s.size ≤ 65536) (hs0 : 0 < s.size) (hok0 : ok 0 = true)
  (S : Nat → Prop) (J Jx : List RdX → World → Prop) (W : World) (B1 : Nat) (hB1 : B1 ≤ W.heap.size) (hJ : AbidesB W.heap.size blkR J)
  (hSN : ∀ k, W.heap.size ≤ k → S k) (hSb : S bw) (hSz : S Zc) (hSA : ∀ a, A = some a → S a.block) (hbz : bw ≠ Zc)
  (hY : ∀ pre x W, J pre W → PreR B1 x W → YieldAt Fence.wide (n - 1) Tryz.prog l (encR x) W fun e W' => (e = .returned (.bool true) ∧ J (pre ++ [x]) W' ∧ KC S W W') ∨ (e = .returned (.bool false) ∧ Jx (pre ++ [x]) W'))
  (hw : W.cell? ⟨bw, 0, none⟩ = some (.string s)) (hc : W.cell? ⟨Zc, 1, none⟩ = some (.slice A xs.length cap)) (hrow : RowT W A xs) (h0 : J [] W) :
  CallsIn Fence.wide n Tryz.prog 176 #[.func (.yield l) #[] #[], .pointer (some ⟨bw, 0, none⟩), .pointer (some ⟨Zc, 0, none⟩)] W fun e W' => (∃ v, e = .returned v) ∧
   ((∃ ys, ys.map Prod.fst = rd 0 ∧ J ys W') ∨ (∃ pre, pre.map Prod.fst <+: rd 0 ∧ Jx pre W')) := by
 have hsf : ∀ (a : Addr) (m : Mode) (fn : Fn) (first cap : Array Value) (W : World), (store a (.func fn first cap) m).run Tryz.prog W = stored Tryz.prog W a (.func fn first cap) m := fun a m fn first cap W => run_store Tryz.prog W a _ m rfl
 obtain ⟨N, hN⟩ : ∃ N, W.heap.size = N := ⟨_, rfl⟩
 have hbw : bw < N := by have := World.block_lt_of_cell? W _ hw; rw [hN] at this; exact this
 have hbc : Zc < N := by have := World.block_lt_of_cell? W _ hc; rw [hN] at this; exact this
 have e1 : (W.alloc (.cells #[.func (.yield l) #[] #[]] 83)).cell? ⟨bw, 0, none⟩ = some (.string s) := (World.cell?_alloc_lt _ _ _ (by show bw < _; omega)).trans hw
 have q1 : IntKind.i64.wrap ((s.size : Int) + 1) = (s.size : Int) + 1 := IntWalk.i64_in _ (by omega)
 refine callsIn_of_wp Tryz.func176 rfl trivial ?_ rfl
 refine wpIn_wide.2 ?_
 simp only [Tryz.ntmps176, List.size_toArray, List.length_cons, List.length_nil, Nat.reduceAdd, Nat.reduceSub, Array.replicate_succ, Array.replicate_zero, List.push_toArray, List.append_toArray, List.nil_append, List.cons_append]
 have hmk : ∀ w, (Instr.makeSlice 232 (.int .i64 ((s.size : Int) + 1)) (.int .i64 ((s.size : Int) + 1))).run Tryz.prog w = .ok (.slice (some ⟨w.heap.size, 0, none⟩) (s.size + 1) (s.size + 1)) (w.alloc (.cells (Array.replicate (s.size + 1) (.bool false)) 4)) := fun w => by
  have := run_make_bools (s.size + 1) (by omega) w
  rw [show ((s.size + 1 : Nat) : Int) = (s.size : Int) + 1 by omega] at this
  exact this
 obtain ⟨W3, hW3⟩ : ∃ W3, ((W.alloc (.cells #[.func (.yield l) #[] #[]] 83)).alloc (.cells (Array.replicate (s.size + 1) (.bool false)) 4)).alloc (.cells #[.slice (some ⟨N + 1, 0, none⟩) (s.size + 1) (s.size + 1)] 232) = W3 := ⟨_, rfl⟩
 have lift : ∀ (W : World) (o : Obj) (k : Nat) (x : Obj), W.heap[k]? = some x → (W.alloc o).heap[k]? = some x := fun W o k x h => (Below.heap_alloc W o k (Array.getElem?_eq_some_iff.1 h).1).trans h
 have hz3 : W3.heap.size = N + 3 := by rw [← hW3]; simp [hN]
 have hg3 : W.grownBy W3 none := by rw [← hW3]; exact ((World.grownBy_alloc _ _ none).trans (World.grownBy_alloc _ _ none)).trans (World.grownBy_alloc _ _ none)
 have hb1 : W3.heap[N + 1]? = some (.cells (Array.replicate (s.size + 1) (.bool false)) 4 (0, 0)) := by rw [← hW3]; exact lift _ _ _ _ (heap_at _ _ _ (by simp [hN]))
 have hb2 : W3.heap[N + 1 + 1]? = some (.cells #[.slice (some ⟨N + 1, 0, none⟩) (s.size + 1) (s.size + 1)] 232 (0, 0)) := by rw [← hW3]; exact heap_at _ _ _ (by simp [hN])
 have hb0 : W3.heap[N]? = some (.cells #[.func (.yield l) #[] #[]] 83 (0, 0)) := by rw [← hW3]; exact lift _ _ _ _ (lift _ _ _ _ (heap_at _ _ _ hN.symm))
 have e3 := hg3.cell hw (by simp)
 have f3 : ∀ j, j ≤ s.size → W3.cell? ⟨N + 1, j, none⟩ = some (.bool false) ∧ W3.frozen? ⟨N + 1, j, none⟩ = false := fun j hj => ⟨by
  rw [cell_of_row W3 _ _ _ _ _ hb1]
  simp [Array.getElem?_replicate]; omega, by simp [World.frozen?, show W3.heap[N + 1]? = _ from hb1]⟩
 obtain ⟨f3a, f3b⟩ := f3 s.size (Nat.le_refl _)
 have c3 := cell_of_one hb2
 have hA : ∀ a, A = some a → a.block < N := fun a e => by
  obtain ⟨b, o, e2, hb, _⟩ := hrow hx0
  rw [e2] at e; cases e
  show b < N
  rw [← hN]; exact hb
 rw [hN] at hJ hSN hB1
 have hst : RdW N l bw Zc cap s A xs ok J s.size ((W3.setCell ⟨N + 1, s.size, none⟩ (.bool true)).alloc (.cells #[.int .i64 ((s.size : Int) - 1)] 3)) := by
  have h3 : RdW N l bw Zc cap s A xs ok J (s.size + 1) W3 := ⟨Nat.le_of_eq hz3.symm, e3, cell_of_one hb0, hg3.cell hc (by simp), hrow.kept3 hg3, c3, fun j hj => ⟨by rw [(f3 j hj).1, okTab, if_neg (by omega)], (f3 j hj).2⟩, hJ _ _ _ _ h0 hg3 (fun r e => by cases e)⟩
  have h4 := h3.store hJ (Nat.le_refl _) hbw hbc hA
  rw [hRd.ok_n] at h4
  exact h4.grown hJ (World.grownBy_alloc _ _ none) hbw hbc hA (fun r e => by cases e)
 have hic : ((W3.setCell ⟨N + 1, s.size, none⟩ (.bool true)).alloc (.cells #[.int .i64 ((s.size : Int) - 1)] 3)).heap[N + 3]? = some (.cells #[.int .i64 ((s.size : Int) - 1)] 3 (0, 0)) := heap_at _ _ _ (by simp [World.setCell, hz3])
 have HSt := hide hst
 clear hst f3 hb0 hb1 hb2 hg3 hrow lift h0 hw hc
 go_wp2
 generalize (W3.setCell ⟨N + 1, s.size, none⟩ (.bool true)).alloc (.cells #[.int .i64 ((s.size : Int) - 1)] 3) = W4 at HSt hic ⊢
 clear f3a f3b c3 e3 hW3 hz3 hmk e1 q1
 go_loopw [5] (fun pv wr => ∃ (i bi : Nat), pv = .pointer (some ⟨bi, 0, none⟩) ∧ wr.heap[bi]? = some (.cells #[.int .i64 ((i : Int) - 1)] 3 (0, 0)) ∧ N + 3 ≤ bi ∧ i ≤ s.size ∧ Hid (RdW N l bw Zc cap s A xs ok J i wr)) (fun pv wr => ptrI pv wr)
 case atStart => exact ⟨s.size, N + 3, rfl, hic, Nat.le_refl _, Nat.le_refl _, HSt⟩
 case round =>
  obtain ⟨i, bi, rfl, hbi, hbn, hi, HR⟩ := hrel
  clear hic HSt
  have hbc1 := cell_of_one hbi
  cases i with
  | zero =>
   have hng : ¬ (0 : Int) ≤ ((0 : Nat) : Int) - 1 := by omega
   obtain ⟨M, hM⟩ : ∃ M, wr.heap.size = M := ⟨_, rfl⟩
   have hzM := HR.out.size
   rw [hM] at hzM
   have hgz : wr.grownBy ((wr.alloc (.cells #[.slice none 0 0] 31)).alloc (.cells #[rdFn bw N M Zc (N + 1 + 1) (M + 1)] 126)) none := (World.grownBy_alloc _ _ none).trans (World.grownBy_alloc _ _ none)
   have hRz := HR.out.grown hJ hgz hbw hbc hA (fun r e => by cases e)
   have lift : ∀ (W : World) (o : Obj) (k : Nat) (x : Obj), W.heap[k]? = some x → (W.alloc o).heap[k]? = some x := fun W o k x h => (Below.heap_alloc W o k (Array.getElem?_eq_some_iff.1 h).1).trans h
   have hl1 : ((wr.alloc (.cells #[.slice none 0 0] 31)).alloc (.cells #[rdFn bw N M Zc (N + 1 + 1) (M + 1)] 126)).heap[M]? = some (.cells #[.slice none 0 0] 31 (0, 0)) := lift _ _ _ _ (heap_at _ _ _ hM.symm)
   have hl2 : ((wr.alloc (.cells #[.slice none 0 0] 31)).alloc (.cells #[rdFn bw N M Zc (N + 1 + 1) (M + 1)] 126)).heap[M + 1]? = some (.cells #[rdFn bw N M Zc (N + 1 + 1) (M + 1)] 126 (0, 0)) := heap_at _ _ _ (by simp [hM])
   have hzz : ((wr.alloc (.cells #[.slice none 0 0] 31)).alloc (.cells #[rdFn bw N M Zc (N + 1 + 1) (M + 1)] 126)).heap.size = M + 2 := by simp [hM]
   have hEnv : REnv l bw N M Zc (N + 1 + 1) (N + 1) (M + 1) s A xs cap ok ((wr.alloc (.cells #[.slice none 0 0] 31)).alloc (.cells #[rdFn bw N M Zc (N + 1 + 1) (M + 1)] 126)) :=
    ⟨hRz.w, hRz.y, hRz.c, hRz.row, hRz.o, fun j hj => by rw [(hRz.k j hj).1, okTab, if_pos (Nat.zero_le _)], cell_of_one hl2⟩
   have hLs : LSt ((wr.alloc (.cells #[.slice none 0 0] 31)).alloc (.cells #[rdFn bw N M Zc (N + 1 + 1) (M + 1)] 126)) M (M + 2) (.slice none 0 0) [] :=
    ⟨cell_of_one hl1, by simp [World.frozen?, hl1], Ints.nil_ _ _, by omega, Nat.le_of_eq hzz.symm⟩
   have HRead := hide (read_in l bw N M Zc (N + 1 + 1) (N + 1) (M + 1) (M + 2) N s A xs cap ok rd hRd hxn hss hs0 S
    (fun k hk => by
     rcases hk with rfl | rfl | rfl | rfl | rfl | rfl | ⟨a, ha, rfl⟩
     ·exact hSb
     ·exact hSN _ (Nat.le_refl _)
     ·exact hSz
     ·exact hSN _ (by omega)
     ·exact hSN _ (by omega)
     ·exact hSN _ (by omega)
     ·exact hSA a ha)
    (hSN _ (by omega)) (fun g hg => hSN _ (by omega))
    (fun k hk => by
     rcases hk with rfl | rfl | rfl | rfl | rfl | rfl | ⟨a, ha, rfl⟩
     ·omega
     ·omega
     ·omega
     ·omega
     ·omega
     ·omega
     ·have := hA a ha; omega)
    (by omega) J Jx hJ
    (fun pre x W' h1 h2 => yieldAny 0 (hY pre x W' h1 ⟨h2.1, h2.2.elim .inl (fun ⟨g, c, cur, a, hb, b⟩ => .inr ⟨g, c, cur, a, by omega, b⟩)⟩))
    (s.size + 1) 0 (Nat.zero_le _) (by omega) [] [] _ _ hEnv hLs (fun x hx => nomatch hx) hRz.j (Nat.le_refl _) (.inl rfl) 0)
   have ho2 := hRz.o
   have hk2 := (hRz.k 0 (Nat.zero_le _)).1
   rw [okTab, if_pos (Nat.le_refl _), hok0] at hk2
   have hr2 := hEnv.r
   have hi3 : (0 : Int) < (s.size : Int) + 1 := by omega
   unfold rdFn at HRead ho2 hk2 hr2
   rw [show ((0 : Nat) : Int) = (0 : Int) from rfl] at HRead
   clear hEnv hLs hRz hgz lift hl1 hl2 hzz HR
   go_wp2_with fail
   (with_reducible refine (callsIn_wide.1 HRead.out).mono ?_)
   rintro e W9 (⟨ys, v', rfl, hys, hj9, _⟩ | ⟨ys, rfl, hys, hj9⟩)
   ·go_wp2
    go_end0
    exact ⟨⟨_, rfl⟩, .inl ⟨ys, by rw [hys]; simp, hj9⟩⟩
   ·go_wp2
    go_end0
    exact ⟨⟨_, rfl⟩, .inr ⟨ys, by simpa using hys, hj9⟩⟩
  | succ i =>
   rw [show (((i + 1 : Nat) : Int) - 1) = (i : Int) by omega] at hbi hbc1
   have hi0 : (0 : Int) ≤ (i : Int) := by omega
   have hi1 : (i : Int) < (s.size : Int) + 1 := by omega
   have hoc := HR.out.o
   have hcc := HR.out.c
   obtain ⟨b, o, hAb, hbl, hcell⟩ := HR.out.row hx0
   have hany : (List.range xs.length).any (fun k => pfB s i (xs.getD k ⟨#[]⟩) && okTab ok (i + 1) (i + (xs.getD k ⟨#[]⟩).size)) = ok i := by
    rw [any_getD (fun x => pfB s i x && okTab ok (i + 1) (i + x.size)), hRd.ok_s i (by omega)]
    rw [Bool.eq_iff_iff, List.any_eq_true, List.any_eq_true]
    have hx : ∀ x ∈ xs, (pfB s i x && okTab ok (i + 1) (i + x.size)) = (pfB s i x && ok (i + x.size)) := fun x hx => by
     have := hRd.ne x hx
     rw [okTab, if_pos (by omega)]
    exact ⟨fun ⟨x, h1, h2⟩ => ⟨x, h1, by rw [← hx x h1]; exact h2⟩, fun ⟨x, h1, h2⟩ => ⟨x, h1, by rw [hx x h1]; exact h2⟩⟩
   have HCF := hide (cfS3_any 178 (.pointer (some ⟨bw, 0, none⟩)) (.pointer (some ⟨bi, 0, none⟩)) (.pointer (some ⟨N + 1 + 1, 0, none⟩)) (fun k => .string (xs.getD k ⟨#[]⟩)) (fun k => pfB s i (xs.getD k ⟨#[]⟩) && okTab ok (i + 1) (i + (xs.getD k ⟨#[]⟩).size)) xs.length cap b o wr.drew (by omega) hbl
    (fun k hk => by rw [show xs.getD k ⟨#[]⟩ = xs[k] by simp [hk]]; exact hcell k hk) (enters_of Tryz.func178 (by kernel_rfl) rfl)
    (hide fun k W' hk hB => by
     have kc : ∀ {p : Addr} {v : Value}, wr.cell? p = some v → W'.cell? p = some v := fun {p} {v} h => (hB.cell (p := p) (World.block_lt_of_cell? wr _ h)).trans h
     refine (rdPred_any (xs.getD k ⟨#[]⟩) s i bw bi (N + 1 + 1) (N + 1) (okTab ok (i + 1)) W' (by omega) hss (kc HR.out.w) (kc hbc1) (kc HR.out.o) (fun j hj => kc (HR.out.k j hj).1)).mono ?_
     rintro e W2 ⟨h1, rfl⟩
     exact ⟨h1, Below.refl _ _⟩))
   rw [hany] at HCF
   have HAft := hide (fun (w1 : World) (hB1 : Below wr.drew.heap.size wr.drew w1) => show (w1.cell? ⟨N + 1 + 1, 0, none⟩ = some (.slice (some ⟨N + 1, 0, none⟩) (s.size + 1) (s.size + 1)) ∧ w1.cell? ⟨bi, 0, none⟩ = some (.int .i64 (i : Int)) ∧ w1.cell? ⟨Zc, 1, none⟩ = some (.slice (some ⟨b, o, none⟩) xs.length cap)) ∧ (∃ u, w1.cell? ⟨N + 1, i, none⟩ = some (.bool u)) ∧ w1.frozen? ⟨N + 1, i, none⟩ = false ∧ RdW N l bw Zc cap s A xs ok J i (w1.setCell ⟨N + 1, i, none⟩ (.bool (ok i))) ∧ (w1.setCell ⟨N + 1, i, none⟩ (.bool (ok i))).cell? ⟨bi, 0, none⟩ = some (.int .i64 (i : Int)) from by
    have hgw : wr.grownBy w1 none := ⟨hB1.os, hB1.tape, hB1.output, hB1.size, fun k hk _ => hB1.block k hk⟩
    have hR1 := HR.out.grown hJ hgw hbw hbc hA (fun r e => by cases e)
    have hbi1 := hgw.cell hbc1 (by simp)
    refine ⟨⟨hR1.o, hbi1, hAb ▸ hR1.c⟩, ⟨_, (hR1.k i (by omega)).1⟩, (hR1.k i (by omega)).2, hR1.store hJ (by omega) hbw hbc hA, ?_⟩
    exact (grown_setO w1 (N + 1) i _).cell hbi1 (by simp; omega))
   subst hAb
   clear hany hcell hbl
   go_wp2
   go_region_held3 (fun W => W.cell? ⟨N + 1 + 1, 0, none⟩ = some (.slice (some ⟨N + 1, 0, none⟩) (s.size + 1) (s.size + 1)) ∧ W.cell? ⟨bi, 0, none⟩ = some (.int .i64 (i : Int)) ∧ W.cell? ⟨Zc, 1, none⟩ = some (.slice (some ⟨b, o, none⟩) xs.length cap))
    (first | with_reducible exact ⟨cell_drew hoc, cell_drew hbc1, cell_drew hcc⟩ | with_reducible exact hS1 | exact ⟨(World.cell?_setCell_far _ _ _ _ (by simp)).trans hS1.1, (World.cell?_setCell_far _ _ _ _ (by simp; omega)).trans hS1.2.1, (World.cell?_setCell_far _ _ _ _ (by simp; omega)).trans hS1.2.2⟩)
    ((go_at_call 177; with_reducible refine HCF.out.mono ?_; rintro e w1 ⟨rfl, hB1⟩; obtain ⟨hS1, ⟨u, hu⟩, hf1, hR1, hbi1⟩ := HAft.out w1 hB1))
   have HR1 := hide hR1
   have hf2 := hbi1
   clear hu hf1 hS1 hB1 hR1 HAft HCF hoc hcc HR
   have hsz1 : (w1.setCell ⟨N + 1, i, none⟩ (.bool (ok i))).heap.size = w1.heap.size := by simp [World.setCell]
   have hNew := heap_at (w1.setCell ⟨N + 1, i, none⟩ (.bool (ok i))) (.cells #[.int .i64 ((i : Int) - 1)] 3) w1.heap.size hsz1.symm
   have hN3 : N + 3 ≤ w1.heap.size := by have := HR1.out.size; omega
   have HR2 := hide (HR1.out.grown hJ (World.grownBy_alloc (w1.setCell ⟨N + 1, i, none⟩ (.bool (ok i))) (.cells #[.int .i64 ((i : Int) - 1)] 3) none) hbw hbc hA (fun r e => by cases e))
   have HNew := hide hNew
   have HSz := hide hsz1
   clear hNew hsz1 HR1
   go_wp2
   go_roundw
   case rel => exact ⟨i, w1.heap.size, rfl, HNew.out, hN3, by omega, HR2⟩
   case measure =>
    simp only [ptrI]
    rw [cell_of_one HNew.out, hbc1]
    simp [intOf]
end
end Go.Proofs.YtbnpjoiojhnimaaGreatDoor
