import Derived.Test.YtbnpjoiojhnimaaGreatDoorG36
import Derived.Test.YtbnpjoiojhnimaaGreatDoorG33
import Derived.Lib.SliceRun
set_option linter.unusedSimpArgs false
set_option linter.unusedVariables false
/- slices.Compact at rows of edges that the call owns: what comes back is a row of edges, no longer. -/
namespace Go.Proofs.YtbnpjoiojhnimaaGreatDoor
open Go.RowKit
def ER (w : World) (g n : Nat) : Prop := ∃ cur : Array Value, w.heap[g]? = some (.cells cur 72 (0, 0)) ∧ ∀ j, j < n * 3 → ∃ x : Int, cur[j]? = some (.int .i64 x)
theorem ER.cell {w : World} {g n : Nat} (h : ER w g n) {j : Nat} (hj : j < n * 3) : ∃ x : Int, w.cell? ⟨g, j, none⟩ = some (.int .i64 x) := by
 obtain ⟨cur, h1, h2⟩ := h
 obtain ⟨x, hx⟩ := h2 j hj
 exact ⟨x, by rw [cell_of_row w g j _ _ _ h1]; exact hx⟩
theorem ER.edge {w : World} {g n : Nat} (h : ER w g n) {k : Nat} (hk : k < n) : ∃ e : Edg, w.cell? ⟨g, k * 3, none⟩ = some (.int .i64 e.f) ∧ w.cell? ⟨g, k * 3 + 1, none⟩ = some (.int .i64 e.l) ∧ w.cell? ⟨g, k * 3 + 2, none⟩ = some (.int .i64 e.t) := by
 obtain ⟨x, hx⟩ := h.cell (j := k * 3) (by omega)
 obtain ⟨y, hy⟩ := h.cell (j := k * 3 + 1) (by omega)
 obtain ⟨z, hz⟩ := h.cell (j := k * 3 + 2) (by omega)
 exact ⟨⟨x, y, z⟩, hx, hy, hz⟩
theorem ER.free {w : World} {g n : Nat} (h : ER w g n) (j : Nat) : w.frozen? ⟨g, j, none⟩ = false := by
 obtain ⟨cur, h1, _⟩ := h
 simp [World.frozen?, h1]
theorem ER.lt {w : World} {g n : Nat} (h : ER w g n) : g < w.heap.size := by
 obtain ⟨cur, h1, _⟩ := h
 exact (Array.getElem?_eq_some_iff.1 h1).1
theorem ER.set {w : World} {g n : Nat} (h : ER w g n) (j : Nat) (x : Int) : ER (w.setCell ⟨g, j, none⟩ (.int .i64 x)) g n := by
 obtain ⟨cur, h1, h2⟩ := h
 refine ⟨cur.setIfInBounds j (.int .i64 x), by simp [World.setCell, Array.getElem?_modify, h1], fun i hi => ?_⟩
 obtain ⟨y, hy⟩ := h2 i hi
 by_cases e : j = i
 ·subst e
  exact ⟨x, by simp [Array.getElem?_setIfInBounds, (Array.getElem?_eq_some_iff.1 hy).1]⟩
 ·exact ⟨y, by rw [Array.getElem?_setIfInBounds, if_neg e]; exact hy⟩
theorem ER.sets {w : World} {g n : Nat} (h : ER w g n) (j : Nat) (m : Nat) : ER (w.setCells g j (List.replicate m (.int .i64 0))) g n := by
 induction m generalizing w j with
 | zero => exact h
 | succ m ih =>
  rw [List.replicate_succ, World.setCells]
  exact ih (h.set j 0) (j + 1)
theorem ER.drewN {w : World} {g n : Nat} (h : ER w g n) (q : Nat) : ER (w.drewN q) g n := h
theorem ER.row {w : World} {g n m : Nat} (h : ER w g n) (hm : m ≤ n) : ∃ ys : List Edg, ys.length = m ∧ RowE w (some ⟨g, 0, none⟩) ys := by
 have hc : ∀ k : Nat, ∃ e : Edg, k < n → w.cell? ⟨g, k * 3, none⟩ = some (.int .i64 e.f) ∧ w.cell? ⟨g, k * 3 + 1, none⟩ = some (.int .i64 e.l) ∧ w.cell? ⟨g, k * 3 + 2, none⟩ = some (.int .i64 e.t) := fun k => by
  by_cases hk : k < n
  ·obtain ⟨e, he⟩ := h.edge hk
   exact ⟨e, fun _ => he⟩
  ·exact ⟨default, fun h => absurd h hk⟩
 have ⟨f, hf⟩ := Classical.axiomOfChoice hc
 refine ⟨(List.range m).map f, by simp, fun _ => ⟨g, 0, rfl, h.lt, fun k hk => ?_⟩⟩
 have hk' : k < m := by simpa using hk
 have := hf k (by omega)
 simpa using this
theorem grownBy_set {w w' : World} {g : Nat} (h : w.grownBy w' (some g)) (j : Nat) (v : Value) : w.grownBy (w'.setCell ⟨g, j, none⟩ v) (some g) :=
 ⟨h.os, h.tape, h.output, by simpa [World.setCell] using h.size, fun k hk hne => (Below.heap_setCell _ ⟨g, j, none⟩ _ k (fun e => hne (by rw [e]))).trans (h.block k hk hne)⟩
theorem grownBy_sets {w w' : World} {g : Nat} (h : w.grownBy w' (some g)) (j m : Nat) : w.grownBy (w'.setCells g j (List.replicate m (.int .i64 0))) (some g) := by
 induction m generalizing w' j with
 | zero => exact h
 | succ m ih =>
  rw [List.replicate_succ, World.setCells]
  exact ih (grownBy_set h j _) (j + 1)
theorem grownBy_drewN {w w' : World} {g : Option Nat} (h : w.grownBy w' g) (q : Nat) : w.grownBy (w'.drewN q) g := ⟨h.os, h.tape, h.output, h.size, h.block⟩
theorem run_clear_edges (w : World) (ty : TypeId) (g n : Nat) (h : ER w g n) (i m c : Nat) (hm : 0 < m) (hi : i + m ≤ n) :
  (Builtin.clear_ #[22] ty #[.slice (some ⟨g, i * 3, none⟩) m c]).run Tryz.prog w = .ok (.tuple #[]) (w.setCells g (i * 3) (List.replicate (m * 3) (.int .i64 0))) := by
 have hzc : (Builtin.zeroCells (Value.agg #[.int .i64 0, .int .i64 0, .int .i64 0]).cells m).toList = List.replicate (m * 3) (.int .i64 0) := by
  have : (Value.agg #[.int .i64 0, .int .i64 0, .int .i64 0]).cells = #[.int .i64 0, .int .i64 0, .int .i64 0] := rfl
  rw [this]
  simp only [Builtin.zeroCells]
  apply List.ext_getElem
  ·simp
  ·intro i h1 h2
   have h3 : i % 3 < 3 := Nat.mod_lt _ (by decide)
   have : i % 3 = 0 ∨ i % 3 = 1 ∨ i % 3 = 2 := by omega
   rcases this with e | e | e <;> simp [e]
 have hst := run_storeCells_cells (P := Tryz.prog) g (i * 3) (List.replicate (m * 3) (.int .i64 0)) 0 w (fun j hj => by
   have hj' : j < m * 3 := by simpa using hj
   obtain ⟨x, hx⟩ := h.cell (j := i * 3 + j) (by omega)
   simp [hx]) (fun j hj => by simp [h.free]) (by intro v hv'; rw [List.eq_of_mem_replicate hv']; rfl)
 simp only [Nat.add_zero] at hst
 have ht := Tryz.underlying22
 have hv : ∀ w, (zeroValue 72).run Tryz.prog w = .ok (.agg #[.int .i64 0, .int .i64 0, .int .i64 0]) w := Tryz.zeroValue72
 obtain ⟨m', rfl⟩ : ∃ m', m = m' + 1 := ⟨m - 1, by omega⟩
 simp [Builtin.clear_, run_underlying ht, hv, hzc, hst]
def CmpP (w : World) (n : Nat) (o : Option Nat) (e : Ending) : Prop := ∃ A c, ∃ ys : List Edg, e = .returned (.slice A ys.length c) ∧ ys.length ≤ n ∧ RowE w A ys ∧ ∀ a, A = some a → some a.block = o
theorem CmpP.cut {w : World} {g n m c : Nat} (h : ER w g n) (hm : m ≤ n) : CmpP w n (some g) (.returned (.slice (some ⟨g, 0, none⟩) m c)) := by
 obtain ⟨ys, hl, hr⟩ := h.row hm
 exact ⟨_, c, ys, by rw [hl], by omega, hr, fun a e => by cases e; rfl⟩
theorem ed_eql (W : World) (a b : Edg) : (binOp .eql 72 (.agg #[.int .i64 a.f, .int .i64 a.l, .int .i64 a.t]) (.agg #[.int .i64 b.f, .int .i64 b.l, .int .i64 b.t])).run Tryz.prog W = .ok (.bool (a.f == b.f && (a.l == b.l && a.t == b.t))) W := by
 rw [run_eql_struct, show (10000 : Nat) = 9998 + 1 + 1 from rfl, ed_eqd]; rfl
set_option maxRecDepth 100000 in
set_option maxHeartbeats 4000000 in
theorem compactE_blk (g n cap : Nat) (w : World) (h : ER w g n) (hc : n ≤ cap) (hm : n ≤ 4294967296) :
  Calls Tryz.prog 226 #[.slice (some ⟨g, 0, none⟩) n cap] w fun e w' => CmpP w' n (some g) e ∧ w.grownBy w' (some g) := by
 have HE := hide h
 clear h
 by_cases h2 : n < 2
 ·have d1 : decide ((n : Int) < 2) = true := decide_eq_true (by omega)
  go_enter Tryz.func226, Tryz.ntmps226
  go_wp2
  go_ret
  exact ⟨.cut HE.out (Nat.le_refl _), World.grownBy.refl _ _⟩
 ·have d1 : decide ((n : Int) < 2) = false := decide_eq_false (by omega)
  go_enter Tryz.func226, Tryz.ntmps226
  go_wp2
  go_loopw [3] (fun iv wr => ∃ k q : Nat, 1 ≤ k ∧ k ≤ n ∧ iv = .int .i64 k ∧ wr = w.drewN q) (fun iv _ => n - (intOf iv).toNat)
  case atStart => exact ⟨1, 0, by omega, by omega, rfl, rfl⟩
  case round =>
   obtain ⟨k, q, hk1, hk, rfl, rfl⟩ := hrel
   by_cases hlt : k < n
   ·obtain ⟨a, a0, a1, a2⟩ := HE.out.edge hlt
    obtain ⟨j, rfl⟩ : ∃ j, k = j + 1 := ⟨k - 1, by omega⟩
    obtain ⟨b, b0, b1, b2⟩ := HE.out.edge (k := j) (by omega)
    have hk0 : (0 : Int) ≤ ((j + 1 : Nat) : Int) := by omega
    have hk2 : ((j + 1 : Nat) : Int) < (n : Int) := by omega
    have e1 : ((j + 1 : Nat) : Int) - 1 = (j : Int) := by omega
    have e2 : (0 : Int) ≤ (j : Int) := by omega
    have e3 : (j : Int) < (n : Int) := by omega
    obtain ⟨z, hz⟩ : ∃ z, z = (a.f == b.f && (a.l == b.l && a.t == b.t)) := ⟨_, rfl⟩
    have hq := fun W => ed_eql W a b
    rw [← hz] at hq
    have hg : Tryz.prog.eqGuardType Tryz.prog.depth 72 = false := by kernel_rfl
    clear hz
    go_wp2_with fail
    go_quiet (fail)
    cases z
    ·go_wp2
     go_roundw
     case rel => exact ⟨j + 1 + 1, q + nq, by omega, by omega, by go_num, by simp⟩
     case measure => simp [intOf]; omega
    ·have HE2 := hide (show ER (w.drewN (q + nq)) g n from HE.out)
     have HG2 := hide (show w.grownBy (w.drewN (q + nq)) (some g) from grownBy_drewN (World.grownBy.refl _ _) _)
     clear a0 a1 a2 b0 b1 b2
     go_wp2_with fail
     obtain ⟨M, hM⟩ : ∃ M, n - (j + 1) = M := ⟨_, rfl⟩
     rw [hM]
     have hMn : j + 1 + M = n := by omega
     clear hM hq
     go_loopw [3, 5] (fun iv jv wr => ∃ kk k2 : Nat, iv = .int .i64 kk ∧ jv = .int .i64 k2 ∧ 1 ≤ k2 ∧ kk < j + 1 + k2 ∧ k2 ≤ M ∧ Hid (ER wr g n) ∧ Hid (w.grownBy wr (some g))) (fun _ jv _ => M - (intOf jv).toNat)
     case atStart => exact ⟨j + 1, 1, rfl, rfl, by omega, by omega, by omega, HE2, HG2⟩
     case round =>
      obtain ⟨kk, k2, rfl, rfl, h21, hkk, hk2n, HEx, HGx⟩ := hrel
      have hkn : kk < n := by omega
      have f1 : (0 : Int) ≤ (kk : Int) := by omega
      have f2 : (kk : Int) < (n : Int) := by omega
      by_cases hlt2 : k2 < M
      ·obtain ⟨i, rfl⟩ : ∃ i, k2 = i + 1 := ⟨k2 - 1, by omega⟩
       obtain ⟨x, x0, x1, x2⟩ := HEx.out.edge (k := j + 1 + (i + 1)) (by omega)
       obtain ⟨y, y0, y1, y2⟩ := HEx.out.edge (k := j + 1 + i) (by omega)
       have p1 : (j + 1 + (i + 1)) * 3 = (j + 1) * 3 + (i + 1) * 3 := by omega
       have p2 : (j + 1 + i) * 3 = (j + 1) * 3 + i * 3 := by omega
       rw [p1] at x0 x1 x2
       rw [p2] at y0 y1 y2
       obtain ⟨t, t0, t1, t2⟩ := HEx.out.edge (k := kk) hkn
       have fr := HEx.out.free
       have g0 : (0 : Int) ≤ ((i + 1 : Nat) : Int) := by omega
       have g1 : ((i + 1 : Nat) : Int) < (M : Int) := by omega
       have g2 : ((i + 1 : Nat) : Int) - 1 = (i : Int) := by omega
       have g3 : (0 : Int) ≤ (i : Int) := by omega
       have g4 : (i : Int) < (M : Int) := by omega
       obtain ⟨z, hz⟩ : ∃ z, z = (x.f == y.f && (x.l == y.l && x.t == y.t)) := ⟨_, rfl⟩
       have hq := fun W => ed_neq W x y
       rw [← hz] at hq
       clear hz p1 p2
       go_wp2_with fail
       go_quiet (fail)
       cases z
       ·go_wp2
        go_roundw
        case rel => exact ⟨kk + 1, i + 1 + 1, by go_num, by go_num, by omega, by omega, by omega, hide ((((HEx.out.drewN _).set _ _).set _ _).set _ _), hide (grownBy_set (grownBy_set (grownBy_set (grownBy_drewN HGx.out _) _ _) _ _) _ _)⟩
        case measure => simp [intOf]; omega
       ·go_wp2
        go_roundw
        case rel => exact ⟨kk, i + 1 + 1, by go_num, by go_num, by omega, by omega, by omega, hide (HEx.out.drewN _), hide (grownBy_drewN HGx.out _)⟩
        case measure => simp [intOf]; omega
      ·have hkM : k2 = M := by omega
       subst hkM
       have hclr := fun ty => run_clear_edges wr ty g n HEx.out kk (n - kk) (cap - kk) (by omega) (by omega)
       go_wp2
       go_ret
       exact ⟨.cut (HEx.out.sets _ _) (by omega), grownBy_sets HGx.out _ _⟩
   ·obtain rfl : k = n := by omega
    go_wp2
    go_ret
    exact ⟨.cut (HE.out.drewN _) (Nat.le_refl _), grownBy_drewN (World.grownBy.refl _ _) _⟩
end Go.Proofs.YtbnpjoiojhnimaaGreatDoor
