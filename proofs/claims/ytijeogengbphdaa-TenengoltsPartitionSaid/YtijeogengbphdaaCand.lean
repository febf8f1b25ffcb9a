/- tenengolts.candidates and the iterator that it makes, for a word of the same length or with one letter more: contracts, for every loop body. -/
import Derived.Test.YtijeogengbphdaaRCor
import Derived.RangeFuncNested
import Derived.RangeFuncBound
import Derived.RangeFuncCalls
import Derived.RangeFuncLeaves
import Derived.RangeFuncFrom
import Derived.Shelf.Abstract
import Derived.Shelf.RegionOpen
import Derived.WalkKit
import Derived.OwnWalkIn
import Derived.TacticsInMore
import Derived.LoopNIn
import Derived.LoopIn
set_option linter.unusedVariables false
namespace Go.Proofs.Ytijeogengbphdaa
open Go.RowKit Go.Shelf
attribute [local go_sem] Oper.semAt_some

theorem cands_in (n : Int) (s : ByteArray) (w : World) :
    CallsIn Fence.wide 3 Try.prog 41 #[.int .i64 n, .string s] w fun e w' =>
      e = .returned (.func (.func 72) #[] #[.pointer (some ⟨w.heap.size + 1, 0, none⟩), .pointer (some ⟨w.heap.size, 0, none⟩)]) ∧
      (w.alloc (.cells #[.int .i64 n] 3)).alloc (.cells #[.string s] 9) = w' := by
  refine callsIn_of_wp Try.func41 rfl trivial ?_ rfl
  simp only [Try.ntmps41, List.size_toArray, List.length_cons, List.length_nil, Nat.reduceAdd, Nat.reduceSub, Array.replicate_succ, Array.replicate_zero, List.push_toArray, List.append_toArray, List.nil_append, List.cons_append]
  gi_wp2
  go_ret
  exact ⟨rfl, rfl⟩

set_option maxRecDepth 100000 in
set_option maxHeartbeats 2000000 in
theorem candsf_same (m : Nat) (hm : 1 ≤ m) (n : Int) (s : ByteArray) (hs : (s.size : Int) = n) (hn : s.size ≤ 30000) (l bs bn n₀ : Nat) (hbs : bs < n₀) (hbn : bn < n₀) (J Jx : List ByteArray → World → Prop)
    (hY : ∀ pre (x : ByteArray) W, x.size ≤ 70000 → J pre W → pre.length < (cands n s).length → YieldAt Fence.wide (m - 1) Try.prog l #[.string x] W fun e W' =>
      (e = .returned (.bool true) ∧ J (pre ++ [x]) W' ∧ Below n₀ W W') ∨ (e = .returned (.bool false) ∧ Jx (pre ++ [x]) W'))
    (W : World) (hcs : W.cell? ⟨bs, 0, none⟩ = some (.string s)) (hcn : W.cell? ⟨bn, 0, none⟩ = some (.int .i64 n)) (h0 : J [] W) :
    CallsIn Fence.wide m Try.prog 72 #[.func (.yield l) #[] #[], .pointer (some ⟨bs, 0, none⟩), .pointer (some ⟨bn, 0, none⟩)] W fun e W' => (∃ v, e = .returned v) ∧
      ((∃ ys, ys = cands n s ∧ J ys W') ∨ (∃ pre, pre <+: cands n s ∧ Jx pre W')) := by
  have hcd : cands n s = [s] := by unfold cands; rw [if_pos hs]
  rw [hcd] at hY ⊢
  subst hs
  obtain ⟨fn, tmps, assign, body, hy, hR⟩ := hY [] s W (by omega) h0 (by simp)
  refine callsIn_of_wp Try.func72 rfl trivial ?_ rfl
  simp only [Try.ntmps72, List.size_toArray, List.length_cons, List.length_nil, Nat.reduceAdd, Nat.reduceSub, Array.replicate_succ, Array.replicate_zero, List.push_toArray, List.append_toArray, List.nil_append, List.cons_append]
  gi_wp2
  refine hR.mono ?_
  rintro e W3 (⟨rfl, hJ3, hk3⟩ | ⟨rfl, hJx3⟩)
  · gi_wp2
    go_end0
    exact ⟨⟨_, rfl⟩, .inl ⟨_, rfl, hJ3⟩⟩
  · gi_wp2
    go_end0
    exact ⟨⟨_, rfl⟩, .inr ⟨_, List.prefix_refl _, hJx3⟩⟩
theorem candDel_pre (s : ByteArray) {k m : Nat} (h : k ≤ m) : candDel s k <+: candDel s m := by
  obtain ⟨d, rfl⟩ : ∃ d, m = k + d := ⟨m - k, by omega⟩
  induction d with
  | zero => exact List.prefix_refl _
  | succ d ih => exact (ih (by omega)).trans (by rw [← Nat.add_assoc, candDel_succ]; exact List.prefix_append _ _)
theorem candIns_pre (s : ByteArray) {k m : Nat} (h : k ≤ m) : candIns s k <+: candIns s m := by
  obtain ⟨d, rfl⟩ : ∃ d, m = k + d := ⟨m - k, by omega⟩
  induction d with
  | zero => exact List.prefix_refl _
  | succ d ih => exact (ih (by omega)).trans (by rw [← Nat.add_assoc, candIns_succ]; exact List.prefix_append _ _)
theorem grown_drew (w : World) : w.grownBy w.drew none := ⟨rfl, rfl, rfl, Nat.le_refl _, fun _ _ _ => rfl⟩

set_option maxRecDepth 100000 in
set_option maxHeartbeats 2000000 in
theorem candsf_del (m : Nat) (hm : 1 ≤ m) (n : Int) (s : ByteArray) (hs : (s.size : Int) = n + 1) (hn : s.size ≤ 30000) (l bs bn n₀ : Nat) (hbs : bs < n₀) (hbn : bn < n₀) (J Jx : List ByteArray → World → Prop) (B : Nat) (hJ : AbidesFrom B J)
    (hY : ∀ pre (x : ByteArray) W, x.size ≤ 70000 → J pre W → pre.length < (cands n s).length → YieldAt Fence.wide (m - 1) Try.prog l #[.string x] W fun e W' =>
      (e = .returned (.bool true) ∧ J (pre ++ [x]) W' ∧ Below n₀ W W') ∨ (e = .returned (.bool false) ∧ Jx (pre ++ [x]) W'))
    (W : World) (hcs : W.cell? ⟨bs, 0, none⟩ = some (.string s)) (hcn : W.cell? ⟨bn, 0, none⟩ = some (.int .i64 n)) (h0 : J [] W) :
    CallsIn Fence.wide m Try.prog 72 #[.func (.yield l) #[] #[], .pointer (some ⟨bs, 0, none⟩), .pointer (some ⟨bn, 0, none⟩)] W fun e W' => (∃ v, e = .returned v) ∧
      ((∃ ys, ys = cands n s ∧ J ys W') ∨ (∃ pre, pre <+: cands n s ∧ Jx pre W')) := by
  have hcd : cands n s = candDel s s.size := by unfold cands; rw [if_neg (by omega), if_pos hs]
  rw [hcd] at hY ⊢
  obtain rfl : n = (s.size : Int) - 1 := by omega
  have HP := fun k (hk : k ≤ s.size) => hide (candDel_pre s hk)
  clear hs hcd
  refine callsIn_of_wp Try.func72 rfl trivial ?_ rfl
  simp only [Try.ntmps72, List.size_toArray, List.length_cons, List.length_nil, Nat.reduceAdd, Nat.reduceSub, Array.replicate_succ, Array.replicate_zero, List.push_toArray, List.append_toArray, List.nil_append, List.cons_append]
  gi_wp2
  gi_loopw [19] (fun i wr => ∃ k : Nat, k ≤ s.size ∧ i = .int .i64 k ∧ wr.cell? ⟨bs, 0, none⟩ = some (.string s) ∧ J (candDel s k) wr) (fun i _ => s.size - (intOf i).toNat)
  case atStart => exact ⟨0, Nat.zero_le _, rfl, hcs, h0⟩
  case round =>
    obtain ⟨k, hk, rfl, hcs1, hJk⟩ := hrel
    by_cases hlt : k < s.size
    · have hk0 : (0 : Int) ≤ (k : Int) := by omega
      have hk1 : (k : Int) < (s.size : Int) := by omega
      have hk2 : (k : Int) + 1 ≤ (s.size : Int) := by omega
      have HS := hide (candDel_succ s k)
      have hJd : J (candDel s k) wr.drew := hJ _ wr _ none hJk (grown_drew wr) (fun r e => by cases e)
      obtain ⟨fn, tmps, assign, body, hy, hR⟩ := hY _ (delB s k) wr.drew (by have := size_delB s k; omega) hJd (by simp [candDel]; omega)
      unfold delB at hy
      gi_wp2_with fail
      have q1 : IntKind.i64.wrap ((k : Int) + 1) = (k : Int) + 1 := IntWalk.i64_in _ (by omega)
      have q2 : ((k : Int) + 1).toNat = k + 1 := by omega
      have q3 : (0 : Int) ≤ (k : Int) + 1 := by omega
      have q4 : ¬ 9223372036854775807 < k + (s.size - (k + 1)) := by omega
      have hmx : Try.prog.follows .mixedOrders = true := by kernel_rfl
      have hR2 := hR.mono (R' := fun e W' => ∃ b : Bool, e = .returned (.bool b) ∧ Hid (b = true → J (candDel s k ++ [delB s k]) W' ∧ Below n₀ wr.drew W') ∧ Hid (b = false → Jx (candDel s k ++ [delB s k]) W')) (by
        rintro e W3 (⟨rfl, h1, h2⟩ | ⟨rfl, h1⟩)
        · exact ⟨true, rfl, hide fun _ => ⟨h1, h2⟩, hide (fun h => Bool.noConfusion h)⟩
        · exact ⟨false, rfl, hide (fun h => Bool.noConfusion h), hide fun _ => h1⟩)
      clear hR
      gi_region_with_o (refine hR2.mono ?_; rintro e W3 ⟨b, rfl, hT, hF⟩)
      all_goals
        clear q1 q2 q3 q4 hR2 hy
        cases b
        · have hJx3 := hF.out rfl
          gi_wp2
          refine bodyPost_ret (results_none rfl _ _ _) rfl ?_
          exact ⟨⟨_, rfl⟩, .inr ⟨_, (HP (k + 1) (by omega)).out, by rw [HS.out]; exact hJx3⟩⟩
        · obtain ⟨hJ3, hk3⟩ := hT.out rfl
          have hcs3 : W3.cell? ⟨bs, 0, none⟩ = some (.string s) := (hk3.cell (p := ⟨bs, 0, none⟩) hbs).trans hcs1
          gi_wp2
          exact ⟨⟨k + 1, by omega, by omega, by rw [HS.out]; exact hJ3⟩, by simp [intOf]; omega⟩
    · obtain rfl : k = s.size := by omega
      gi_wp2
      go_end0
      exact ⟨⟨_, rfl⟩, .inl ⟨_, rfl, hJk⟩⟩
end Go.Proofs.Ytijeogengbphdaa
