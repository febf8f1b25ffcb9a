/- slices.Values of sectors: its iterator's contract. -/
import Derived.Test.YtmajalpmbppkpaaFst
import Derived.RangeFuncNested
import Derived.RangeFuncBound
import Derived.RangeFuncCalls
import Derived.RangeFuncLeaves
import Derived.RangeFuncFrom
import Derived.Shelf.Abstract
import Derived.Shelf.RegionOpen
import Derived.WalkKit
import Derived.OwnWalkIn
import Derived.TacticsInMore
import Derived.LoopNIn
import Derived.LoopIn
import Derived.Maps.OwnIn
set_option linter.unusedVariables false
namespace Go.Proofs.Ytmajalpmbppkpaa
open Go.RowKit Go.Shelf
attribute [local go_sem] Oper.semAt_some
/-- a sector with the slice of its data; its number is an int -/
abbrev SV := { p : Sct × Option Addr × Nat // (Lit.int .i64 p.1.ix).wf = true }
def encV (x : SV) : Value := .agg #[.int .i64 x.1.1.ix, .int .i64 x.1.1.pos, .int .i64 x.1.1.st, .slice x.1.2.1 x.1.1.dt.length x.1.2.2]
/-- a row of such sectors that lies -/
def RowV (n₀ : Nat) (w : World) (A : Option Addr) (L : List SV) : Prop := 0 < L.length → ∃ b o, A = some ⟨b, o, none⟩ ∧ b < n₀ ∧ ∀ k (hk : k < L.length),
  w.cell? ⟨b, o + k * 4, none⟩ = some (.int .i64 L[k].1.1.ix) ∧ w.cell? ⟨b, o + k * 4 + 1, none⟩ = some (.int .i64 L[k].1.1.pos) ∧ w.cell? ⟨b, o + k * 4 + 2, none⟩ = some (.int .i64 L[k].1.1.st) ∧
    w.cell? ⟨b, o + k * 4 + 3, none⟩ = some (.slice L[k].1.2.1 L[k].1.1.dt.length L[k].1.2.2)
theorem RowV.below {n₀ : Nat} {w w' : World} {A : Option Addr} {L : List SV} (h : RowV n₀ w A L) (hB : Below n₀ w w') : RowV n₀ w' A L := by
  intro h0
  obtain ⟨b, o, h1, h2, h3⟩ := h h0
  have e : ∀ n, w'.cell? ⟨b, n, none⟩ = w.cell? ⟨b, n, none⟩ := fun n => hB.cell (p := ⟨b, n, none⟩) h2
  exact ⟨b, o, h1, h2, fun k hk => ⟨(e _).trans (h3 k hk).1, (e _).trans (h3 k hk).2.1, (e _).trans (h3 k hk).2.2.1, (e _).trans (h3 k hk).2.2.2⟩⟩
theorem rowV_of {w : World} {A : Option Addr} {xs : List Sct} (h : RowC w A xs) (hw : ∀ x ∈ xs, (Lit.int .i64 x.ix).wf = true) :
    ∃ L : List SV, L.map (fun x => x.1.1) = xs ∧ RowV w.heap.size w A L ∧ ∀ x ∈ L, RowI w x.1.2.1 x.1.1.dt := by
  rcases Nat.eq_zero_or_pos xs.length with h0 | h0
  · obtain rfl := List.eq_nil_of_length_eq_zero h0
    exact ⟨[], rfl, fun h => absurd h (by simp), by simp⟩
  · obtain ⟨b, o, h1, h2, h3⟩ := h h0
    have key : ∀ n, n ≤ xs.length → ∃ L : List SV, L.map (fun x => x.1.1) = xs.take n ∧ ∀ k (hk : k < L.length), (w.cell? ⟨b, o + k * 4, none⟩ = some (.int .i64 L[k].1.1.ix) ∧ w.cell? ⟨b, o + k * 4 + 1, none⟩ = some (.int .i64 L[k].1.1.pos) ∧ w.cell? ⟨b, o + k * 4 + 2, none⟩ = some (.int .i64 L[k].1.1.st) ∧
        w.cell? ⟨b, o + k * 4 + 3, none⟩ = some (.slice L[k].1.2.1 L[k].1.1.dt.length L[k].1.2.2)) ∧ RowI w L[k].1.2.1 L[k].1.1.dt := by
      intro n
      induction n with
      | zero => exact fun _ => ⟨[], by simp, fun k hk => absurd hk (by simp)⟩
      | succ n ih =>
        intro hn
        obtain ⟨L, hL, hc⟩ := ih (by omega)
        obtain ⟨c0, c1, c2, D, c, c3, hd⟩ := h3 n (by omega)
        have hlen : L.length = n := by
          have := congrArg List.length hL
          simp at this
          omega
        refine ⟨L ++ [⟨(xs[n], D, c), hw _ (List.getElem_mem _)⟩], by rw [List.map_append, hL, List.take_succ_eq_append_getElem (by omega)]; rfl, fun k hk => ?_⟩
        rcases Nat.lt_or_ge k L.length with hk' | hk'
        · rw [List.getElem_append_left hk']
          exact hc k hk'
        · obtain rfl : k = L.length := by simp at hk; omega
          rw [List.getElem_append_right (Nat.le_refl _)]
          simp only [Nat.sub_self, List.getElem_cons_zero]
          rw [hlen]
          exact ⟨⟨c0, c1, c2, c3⟩, hd⟩
    obtain ⟨L, hL, hc⟩ := key xs.length (Nat.le_refl _)
    refine ⟨L, by rw [hL, List.take_length], fun _ => ⟨b, o, h1, h2, fun k hk => (hc k hk).1⟩, fun x hx => ?_⟩
    obtain ⟨k, hk, rfl⟩ := List.getElem_of_mem hx
    exact (hc k hk).2
set_option maxHeartbeats 1000000 in
theorem vals_in (F : Fence) (n : Nat) (h5 : F.fn 55) (hro : F.round = none) (a : Option Addr) (len cap : Nat) (w : World) :
    CallsIn F n Try.prog 55 #[.slice a len cap] w fun e w' => e = .returned (.func (.func 83) #[] #[.pointer (some ⟨w.heap.size, 0, none⟩)]) ∧ w' = w.alloc (.cells #[.slice a len cap] 22) := by
  refine callsIn_of_wp Try.func55 rfl h5 ?_ hro
  simp only [Try.ntmps55, List.size_toArray, List.length_cons, List.length_nil, Nat.reduceAdd, Nat.reduceSub, Array.replicate_succ, Array.replicate_zero, List.push_toArray, List.append_toArray, List.nil_append, List.cons_append]
  gi_wp2
  go_ret
  exact ⟨rfl, rfl⟩
set_option maxRecDepth 100000 in
set_option maxHeartbeats 2000000 in
theorem valsf_in (F : Fence) (n : Nat) (h7 : F.fn 83) (hro : F.round = none) (hn : 1 ≤ n) (l Bs n₀ B : Nat) (A : Option Addr) (cap : Nat) (L : List SV) (hb : L.length ≤ 12) (J Jx : List SV → World → Prop) (hJ : AbidesFrom B J)
    (hY : ∀ pre x W, J pre W → pre.length < L.length → YieldAt F (n - 1) Try.prog l #[encV x] W fun e W' =>
      (e = .returned (.bool true) ∧ J (pre ++ [x]) W' ∧ Below n₀ W W') ∨ (e = .returned (.bool false) ∧ Jx (pre ++ [x]) W'))
    (W : World) (hn₀ : n₀ ≤ W.heap.size) (hBs : W.cell? ⟨Bs, 0, none⟩ = some (.slice A L.length cap)) (hR : RowV n₀ W A L) (h0 : J [] W) :
    CallsIn F n Try.prog 83 #[.func (.yield l) #[] #[], .pointer (some ⟨Bs, 0, none⟩)] W fun e W' => (∃ v, e = .returned v) ∧
      ((∃ ys, ys = L ∧ J ys W') ∨ (∃ pre, pre <+: L ∧ Jx pre W')) := by
  have HR := hide hR
  clear hR
  refine callsIn_of_wp Try.func83 rfl h7 ?_ hro
  simp only [Try.ntmps83, List.size_toArray, List.length_cons, List.length_nil, Nat.reduceAdd, Nat.reduceSub, Array.replicate_succ, Array.replicate_zero, List.push_toArray, List.append_toArray, List.nil_append, List.cons_append]
  gi_wp2
  gi_loopw [7] (fun i wr => ∃ k : Nat, k ≤ L.length ∧ i = .int .i64 k ∧ J (L.take k) wr ∧ Below n₀ W wr)
    (fun i _ => L.length - (intOf i).toNat)
  case atStart => exact ⟨0, Nat.zero_le _, rfl, h0, Below.refl _ _⟩
  case round =>
    obtain ⟨k, hk, rfl, hJs, hnx⟩ := hrel
    by_cases hlt : k < L.length
    · obtain ⟨b0, o0, rfl, ha, hcell⟩ := (HR.out.below hnx) (by omega)
      obtain ⟨c0, c1, c2, c3⟩ := hcell k hlt
      have hk0 : (0 : Int) ≤ (k : Int) := by omega
      have hk1 : (k : Int) < (L.length : Int) := by omega
      have hJ2 := hJ _ _ _ none hJs (World.grownBy_alloc wr (Obj.cells #[.int .i64 L[k].1.1.ix, .int .i64 L[k].1.1.pos, .int .i64 L[k].1.1.st, .slice L[k].1.2.1 L[k].1.1.dt.length L[k].1.2.2] 71) none) (fun r e => by cases e)
      have hB2 := hnx.alloc (by have := hnx.size; omega) (Obj.cells #[.int .i64 L[k].1.1.ix, .int .i64 L[k].1.1.pos, .int .i64 L[k].1.1.st, .slice L[k].1.2.1 L[k].1.1.dt.length L[k].1.2.2] 71)
      have HTS := hide (List.take_succ_eq_append_getElem hlt)
      have HPR := hide (List.take_prefix (k + 1) L)
      have hY2 := hY (L.take k) L[k] _ hJ2 (by rw [List.length_take]; omega)
      rw [← List.take_succ_eq_append_getElem hlt] at hY2
      obtain ⟨x, hx⟩ : ∃ x, x = L[k] := ⟨_, rfl⟩
      rw [← hx] at c0 c1 c2 c3 hY2 hJ2 hB2
      have HX := hide hx
      clear hx hcell hnx hJs
      obtain ⟨⟨⟨x0, x1, x2, x3⟩, D, cd⟩, hwf⟩ := x
      simp only [encV] at c0 c1 c2 c3 hY2
      obtain ⟨fn, tmps, assign, body, hy, hR⟩ := hY2
      gi_wp2
      refine hR.mono ?_
      rintro e W3 (⟨rfl, hJ3, hk3⟩ | ⟨rfl, hJx3⟩)
      · gi_wp2
        go_roundw
        case rel => exact ⟨k + 1, by omega, by go_num, hJ3, hB2.trans hk3⟩
        case measure => simp [intOf]; omega
      · gi_wp2
        refine bodyPost_ret (results_none rfl _ _ _) rfl ?_
        exact ⟨⟨_, rfl⟩, .inr ⟨_, HPR.out, hJx3⟩⟩
    · obtain rfl : k = L.length := by omega
      gi_wp2
      go_end0
      exact ⟨⟨_, rfl⟩, .inl ⟨L, rfl, by rw [List.take_length] at hJs; exact hJs⟩⟩
theorem valsf_stops (F : Fence) (n : Nat) (h7 : F.fn 83) (hro : F.round = none) (hn : 1 ≤ n) (Bs n₀ : Nat) (A : Option Addr) (cap : Nat) (L : List SV) (hb : L.length ≤ 12) (w : World) (hBs : Bs < w.heap.size) (hn₀ : n₀ ≤ w.heap.size)
    (hc : w.cell? ⟨Bs, 0, none⟩ = some (.slice A L.length cap)) (hR : RowV n₀ w A L) :
    SeqStopsK F n Try.prog 83 #[.pointer (some ⟨Bs, 0, none⟩)] (fun x : SV => #[encV x]) (Below n₀) (fun ys => ys = L) (fun pre => pre <+: L) L.length w := fun l J Jx W hW hJ _ hY h0 =>
  valsf_in F n h7 hro hn l Bs n₀ _ A cap L hb J Jx hJ hY W (by have := hW.size; omega) ((hW.cell (p := ⟨Bs, 0, none⟩) hBs).trans hc) (hR.below (hW.mono hn₀)) h0
end Go.Proofs.Ytmajalpmbppkpaa
