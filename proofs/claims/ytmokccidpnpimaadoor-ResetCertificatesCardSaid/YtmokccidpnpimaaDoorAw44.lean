/- The example of the chapter; groovelaw44.awake. -/
import Derived.Test.YtmokccidpnpimaaDoorCkl
set_option linter.unusedVariables false
namespace Go.Proofs.YtmokccidpnpimaaDoor
open Go.RowKit Go.Maps
def exA : List (List Int) := [[1, 1], [1, 2], [2, 0]]
theorem results_cell_one {fn : Func} {p : Tmp} {ty : TypeId} (h : fn.results = #[.cell p ty]) (tmps : Array Value) (P : Program) (w : World) :
    (results fn tmps).run P w = ((asAddr (tmps.getD p undef)).run P w).andThen fun a w₁ => (loadVar ty a).run P w₁ := by
  simp only [results, h]
  simp [Sem.run_bind, Result.andThen]
theorem autSize : (Tryd.prog.info? 24).map (·.size) = some 2 := by kernel_rfl
theorem ret_aut {fn : Func} {p : Tmp} (h : fn.results = #[.cell p 24]) (tmps : Array Value) (w : World) (g : Nat) (cs : Array Value) (hp : tmps.getD p undef = .pointer (some ⟨g, 0, none⟩)) (hg : w.heap[g]? = some (.cells cs 24 (0, 0))) (hcs : cs.size = 2) :
    (results fn tmps).run Tryd.prog w = .ok (.agg cs) w := by
  rw [results_cell_one h, hp]
  simp [asAddr, Result.andThen, run_loadVar_row w g 24 24 cs (0, 0) _ hg Tryd.underlying24 rfl (by rw [hcs]; exact autSize)]
def wA (w : World) : World := ((((w.alloc (Obj.cells #[Value.int .i64 2, Value.slice (some ⟨w.heap.size + 1 + 1 + 1 + 1, 0, none⟩) 3 3] 24)).alloc (Obj.cells #[Value.int .i64 1, Value.int .i64 1] 3)).alloc (Obj.cells #[Value.int .i64 1, Value.int .i64 2] 3)).alloc (Obj.cells #[Value.int .i64 2, Value.int .i64 0] 3)).alloc
  (Obj.cells #[Value.slice (some ⟨w.heap.size + 1, 0, none⟩) 2 2, Value.slice (some ⟨w.heap.size + 1 + 1, 0, none⟩) 2 2, Value.slice (some ⟨w.heap.size + 1 + 1 + 1, 0, none⟩) 2 2] 27)
theorem wA_below (w : World) : Below w.heap.size w (wA w) := by
  unfold wA
  exact ((((((Below.refl _ w).alloc (Nat.le_refl _) _).alloc (by simp) _).alloc (by simp; omega) _).alloc (by simp; omega) _).alloc (by simp; omega) _)
theorem wA_size (w : World) : (wA w).heap.size = w.heap.size + 5 := by unfold wA; simp
theorem wA_row (w : World) : RowD (wA w) (some ⟨w.heap.size + 1 + 1 + 1 + 1, 0, none⟩) exA := fun _ => ⟨w.heap.size + 1 + 1 + 1 + 1, 0, rfl, by rw [wA_size]; omega, fun k hk => by
  match k, hk with
  | 0, _ => exact ⟨_, _, by simp [wA, exA, go_sem]; first | exact ⟨rfl, rfl⟩ | rfl, fun _ => ⟨w.heap.size + 1, 0, rfl, by rw [wA_size]; omega, fun j hj => by
      match j, hj with
      | 0, _ => simp [wA, exA, go_sem]
      | 1, _ => simp [wA, exA, go_sem]
      | n + 2, h => exact absurd h (by simp [exA])⟩⟩
  | 1, _ => exact ⟨_, _, by simp [wA, exA, go_sem]; first | exact ⟨rfl, rfl⟩ | rfl, fun _ => ⟨w.heap.size + 1 + 1, 0, rfl, by rw [wA_size]; omega, fun j hj => by
      match j, hj with
      | 0, _ => simp [wA, exA, go_sem]
      | 1, _ => simp [wA, exA, go_sem]
      | n + 2, h => exact absurd h (by simp [exA])⟩⟩
  | 2, _ => exact ⟨_, _, by simp [wA, exA, go_sem]; first | exact ⟨rfl, rfl⟩ | rfl, fun _ => ⟨w.heap.size + 1 + 1 + 1, 0, rfl, by rw [wA_size]; omega, fun j hj => by
      match j, hj with
      | 0, _ => simp [wA, exA, go_sem]
      | 1, _ => simp [wA, exA, go_sem]
      | n + 2, h => exact absurd h (by simp [exA])⟩⟩
  | n + 3, h => exact absurd h (by simp [exA])⟩
set_option maxRecDepth 100000 in
set_option maxHeartbeats 1000000 in
theorem example44_any (w : World) : Calls Tryd.prog 36 #[] w fun e w' => ∃ A, e = .returned (.agg #[.int .i64 2, .slice A exA.length 3]) ∧ RowD w' A exA ∧ Below w.heap.size w w' := by
  have h1 := hide (wA_row w)
  have h2 := hide (wA_below w)
  have hg : (wA w).heap[w.heap.size]? = some (.cells #[Value.int .i64 2, Value.slice (some ⟨w.heap.size + 1 + 1 + 1 + 1, 0, none⟩) 3 3] 24 (0, 0)) := by
    unfold wA
    rw [heap_alloc_old _ _ (by simp; omega), heap_alloc_old _ _ (by simp; omega), heap_alloc_old _ _ (by simp; omega), heap_alloc_old _ _ (by simp)]
    exact heap_alloc_new w _
  have HG := hide hg
  clear hg
  go_enter Tryd.func36, Tryd.ntmps36
  go_wp2
  refine bodyPost_ret (ret_aut rfl _ _ w.heap.size _ rfl (by exact HG.out) rfl) rfl ?_
  exact ⟨_, rfl, h1.out, h2.out⟩
theorem ex_first : first exA 2 (fullS exA) = (⟨#[48, 49, 49, 48]⟩, true) := by kernel_rfl
theorem ex_chk : chkA ((2 : Nat) : Int) exA = 0 := by decide
theorem ex_lay : (lays exA 2 4).map ints = [[7], [6], [5], [3]] := by
  have s : ∀ x, srtN [x] = [x] := fun x => by simp [srtN]
  have l0 : layS exA 2 0 = ([7], [7]) := by rfl
  have l1 : layS exA 2 1 = ([6], [7, 6]) := by
    rw [layS_next l0, show nxtK exA 2 [7] [7] [7].length = [6] by kernel_rfl, s]; rfl
  have l2 : layS exA 2 2 = ([5], [7, 6, 5]) := by
    rw [layS_next l1, show nxtK exA 2 [6] [7, 6] [6].length = [5] by kernel_rfl, s]; rfl
  have l3 : layS exA 2 3 = ([3], [7, 6, 5, 3]) := by
    rw [layS_next l2, show nxtK exA 2 [5] [7, 6, 5] [5].length = [3] by kernel_rfl, s]; rfl
  unfold lays
  simp only [List.range_succ, List.range_zero, List.nil_append, List.map_append, List.map_cons, List.map_nil, l0, l1, l2, l3]
  rfl
theorem ex_ckl : cklV 2 exA [[7], [6], [5], [3]] [48, 49, 49, 48] = 0 := by decide +kernel
theorem Ints.row {w : World} {B : Nat} {v : Value} {zs : List Int} (h : Ints w B v zs) : ∃ A c, v = .slice A zs.length c ∧ RowI w A zs := by
  by_cases h0 : 0 < zs.length
  · obtain ⟨g, cap, rfl, h1, h2⟩ := h.form h0
    exact ⟨_, cap, rfl, fun _ => ⟨g, 0, rfl, h2, fun k hk => by rw [Nat.zero_add]; exact h.cell hk⟩⟩
  · obtain ⟨A, c, rfl⟩ := h.shape
    exact ⟨A, c, rfl, fun h => absurd h h0⟩
theorem OutV.row {w : World} {B : Nat} {v : Value} {ls : List (List Int)} (h : OutV w B v ls) : ∃ D c, v = .slice D ls.length c ∧ RowD w D ls := by
  obtain ⟨vs, hrow, hin⟩ := h
  rcases hrow.2 with ⟨rfl, h0⟩ | ⟨g, cap, cur, rfl, hb, hg, hn, hm, hs, ht⟩
  · exact ⟨none, 0, by rw [h0], fun h => absurd h (by omega)⟩
  · refine ⟨_, cap, rfl, fun _ => ⟨g, 0, rfl, (Array.getElem?_eq_some_iff.1 hg).1, fun k hk => ?_⟩⟩
    obtain ⟨u, hu, hI⟩ := hin k hk
    obtain ⟨D, c, rfl, hD⟩ := hI.row
    refine ⟨D, c, ?_, hD⟩
    rw [Nat.zero_add, cell_of_row w g k cur 27 (0, 0) hg]
    rw [← ht, List.getElem?_take] at hu
    split at hu
    · simpa using hu
    · cases hu
def exL : List (List Int) := [[7], [6], [5], [3]]
def wB (w : World) : World := ((((w.alloc (Obj.cells #[Value.int .i64 7] 3)).alloc (Obj.cells #[Value.int .i64 6] 3)).alloc (Obj.cells #[Value.int .i64 5] 3)).alloc (Obj.cells #[Value.int .i64 3] 3)).alloc
  (Obj.cells #[Value.slice (some ⟨w.heap.size, 0, none⟩) 1 1, Value.slice (some ⟨w.heap.size + 1, 0, none⟩) 1 1, Value.slice (some ⟨w.heap.size + 1 + 1, 0, none⟩) 1 1, Value.slice (some ⟨w.heap.size + 1 + 1 + 1, 0, none⟩) 1 1] 27)
theorem wB_below (w : World) : Below w.heap.size w (wB w) := by
  unfold wB
  exact ((((((Below.refl _ w).alloc (Nat.le_refl _) _).alloc (by simp) _).alloc (by simp; omega) _).alloc (by simp; omega) _).alloc (by simp; omega) _)
theorem wB_size (w : World) : (wB w).heap.size = w.heap.size + 5 := by unfold wB; simp
theorem wB_row (w : World) : RowD (wB w) (some ⟨w.heap.size + 1 + 1 + 1 + 1, 0, none⟩) exL := fun _ => ⟨w.heap.size + 1 + 1 + 1 + 1, 0, rfl, by rw [wB_size]; omega, fun k hk => by
  match k, hk with
  | 0, _ => exact ⟨_, _, by simp [wB, exL, go_sem]; first | exact ⟨rfl, rfl⟩ | rfl, fun _ => ⟨w.heap.size, 0, rfl, by rw [wB_size]; omega, fun j hj => by
      obtain rfl : j = 0 := by simp [exL] at hj; omega
      simp [wB, exL, go_sem]⟩⟩
  | 1, _ => exact ⟨_, _, by simp [wB, exL, go_sem]; first | exact ⟨rfl, rfl⟩ | rfl, fun _ => ⟨w.heap.size + 1, 0, rfl, by rw [wB_size]; omega, fun j hj => by
      obtain rfl : j = 0 := by simp [exL] at hj; omega
      simp [wB, exL, go_sem]⟩⟩
  | 2, _ => exact ⟨_, _, by simp [wB, exL, go_sem]; first | exact ⟨rfl, rfl⟩ | rfl, fun _ => ⟨w.heap.size + 1 + 1, 0, rfl, by rw [wB_size]; omega, fun j hj => by
      obtain rfl : j = 0 := by simp [exL] at hj; omega
      simp [wB, exL, go_sem]⟩⟩
  | 3, _ => exact ⟨_, _, by simp [wB, exL, go_sem]; first | exact ⟨rfl, rfl⟩ | rfl, fun _ => ⟨w.heap.size + 1 + 1 + 1, 0, rfl, by rw [wB_size]; omega, fun j hj => by
      obtain rfl : j = 0 := by simp [exL] at hj; omega
      simp [wB, exL, go_sem]⟩⟩
  | n + 4, h => exact absurd h (by simp [exL])⟩
set_option maxRecDepth 100000 in
set_option maxHeartbeats 1000000 in
theorem awake44_any (w : World) (hT : TabZ w) : Calls Tryd.prog 14 #[] w fun e w' => e = .returned (.bool true) ∧ Below w.heap.size w w' := by
  have HT := hide hT
  have HE := hide (fun W => example44_any W)
  have hgr : grt 2 exA.length = false := by decide
  have HS := hide (fun A W (h : RowD W A exA) (hT : TabZ W) => zShortest_any ((2 : Nat) : Int) exA A 3 W hgr h hT (by decide))
  rw [shrV_ok ex_chk, ex_first] at HS
  have HL := hide (fun A W (h : RowD W A exA) (hT : TabZ W) => zLayers_any ((2 : Nat) : Int) exA A 3 W hgr h hT (by decide))
  rw [(lay_ok ex_chk ex_first).1, (lay_ok ex_chk ex_first).2] at HL
  rw [show (lays exA 2 (⟨#[48, 49, 49, 48]⟩ : ByteArray).size).map ints = exL from ex_lay] at HL
  have HSS : Hid (∀ W D dc, RowD W D exL → Calls Tryd.prog 17 #[.slice D 4 dc, .slice (some ⟨W.heap.size + 1 + 1 + 1 + 1, 0, none⟩) 4 4] (wB W) fun e w' => e = .returned (.bool true) ∧ ∃ q, w' = (wB W).drewN q) :=
    hide fun W D dc h => sameSets_any exL exL D _ dc 4 (wB W) (h.below (wB_below W)) (wB_row W) (by decide) (by decide) (by decide) (by decide)
  have HCK : Hid (∀ W A D dc, RowD W A exA → RowD W D exL → TabZ W → Calls Tryd.prog 18 #[.agg #[.int .i64 2, .slice A 3 3], .slice D 4 dc, .string ⟨#[48, 49, 49, 48]⟩] W fun e w' => e = .returned (.int .i64 0) ∧ Below W.heap.size W w') :=
    hide fun W A D dc h1 h2 h3 => (zCheckLayers_any 2 exA exL ⟨#[48, 49, 49, 48]⟩ A 3 D dc W hgr h1 h3 h2 (by decide) (by decide) (by decide) (by decide)).mono fun e w' ⟨h, k⟩ => ⟨by rw [h]; exact congrArg _ (congrArg _ ex_ckl), k⟩
  have hB := Below.refl w.heap.size w
  clear hT hgr
  go_enter Tryd.func14, Tryd.ntmps14
  go_wp2_with (first
    | (go_at_call 36; refine (HE.out _).mono ?_; rintro e W1 ⟨A, rfl, hRA, hBA⟩; replace hB := hB.trans (hBA.mono hB.size))
    | (go_at_call 22; refine (HS.out A _ hRA (HT.out.below hB)).mono ?_; rintro e W2 ⟨rfl, hB2⟩; replace hB := hB.trans (hB2.mono hB.size))
    | (go_at_call 15; refine (HL.out A _ hRA (HT.out.below hB)).mono ?_; rintro e W3 ⟨v, rfl, hO, hB3⟩; replace hB := hB.trans (hB3.mono hB.size); obtain ⟨D, dc, rfl, hD⟩ := hO.row)
    | (go_at_call 17; refine (HSS.out W3 D dc hD).mono ?_; rintro e W4 ⟨rfl, q4, rfl⟩; replace hB := belowN (hB.trans ((wB_below W3).mono hB.size)) q4; replace hD : RowD ((wB W3).drewN q4) D exL := (hD.below (wB_below W3)).drewN q4)
    | (go_at_call 18; refine (HCK.out _ A D dc hRA (hD.below hBA) (HT.out.below hB)).mono ?_; rintro e W6 ⟨rfl, hB6⟩; replace hB := hB.trans (hB6.mono hB.size)))
  go_ret
  exact ⟨rfl, hB⟩
end Go.Proofs.YtmokccidpnpimaaDoor
