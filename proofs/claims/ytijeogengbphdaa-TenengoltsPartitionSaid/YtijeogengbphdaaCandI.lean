/- The iterator that tenengolts.candidates makes, for a word with one letter less: its contract, for every loop body. -/
import Derived.Test.YtijeogengbphdaaCand
import Derived.RangeFuncNested
import Derived.RangeFuncBound
import Derived.RangeFuncCalls
import Derived.RangeFuncLeaves
import Derived.RangeFuncFrom
import Derived.Shelf.Abstract
import Derived.Shelf.RegionOpen
import Derived.WalkKit
import Derived.OwnWalkIn
import Derived.TacticsInMore
import Derived.LoopNIn
import Derived.LoopIn
set_option linter.unusedVariables false
namespace Go.Proofs.Ytijeogengbphdaa
open Go.RowKit Go.Shelf
attribute [local go_sem] Oper.semAt_some



theorem named_any {F : Fence} {n : Nat} {P : Program} {md : Region.Mode} {ops : Array Oper} {Q : Exit → Act → World → Prop} {fuel : Nat} {listed : Array Bool} {a : Act} {w : World}
    (hp : ∀ c a (t : Nat) v w, Q (.panic c) (a.put (some t) v) w → Q (.panic c) a w)
    (h : ∀ Qq, Qq = Q → (∀ c a (t : Nat) v w, Qq (.panic c) (a.put (some t) v) w → Qq (.panic c) a w) → wpAnyIn F n P md ops Qq fuel listed a w) : wpAnyIn F n P md ops Q fuel listed a w := h Q rfl hp
theorem ite_skip {c : Bool} {A B : Prop} (hc : c = false) (h : B) : if c = true then A else B := by subst hc; simpa using h
/-- the answer of a yield as one letter -/
theorem yield_cases {F : Fence} {m : Nat} {P : Program} {l : Nat} {fn : FuncId} {tmps : Array Value} {assign body : Code} {W : World} {A B : World → Prop}
    (h : RoundIn F m P l fn tmps assign body W fun e W' => (e = .returned (.bool true) ∧ A W') ∨ (e = .returned (.bool false) ∧ B W')) :
    RoundIn F m P l fn tmps assign body W fun e W' => ∃ b : Bool, e = .returned (.bool b) ∧ Hid (b = true → A W') ∧ Hid (b = false → B W') :=
  h.mono (by
    rintro e W3 (⟨rfl, h1⟩ | ⟨rfl, h1⟩)
    · exact ⟨true, rfl, hide fun _ => h1, hide (fun h => Bool.noConfusion h)⟩
    · exact ⟨false, rfl, hide (fun h => Bool.noConfusion h), hide fun _ => h1⟩)

set_option maxRecDepth 100000 in
set_option maxHeartbeats 2000000 in
theorem candsf_ins (m : Nat) (hm : 1 ≤ m) (n : Int) (s : ByteArray) (hs : (s.size : Int) = n - 1) (hn : s.size ≤ 30000) (l bs bn n₀ : Nat) (hbs : bs < n₀) (hbn : bn < n₀) (J Jx : List ByteArray → World → Prop) (B : Nat) (hJ : AbidesFrom B J)
    (hY : ∀ pre (x : ByteArray) W, x.size ≤ 70000 → J pre W → pre.length < (cands n s).length → YieldAt Fence.wide (m - 1) Try.prog l #[.string x] W fun e W' =>
      (e = .returned (.bool true) ∧ J (pre ++ [x]) W' ∧ Below n₀ W W') ∨ (e = .returned (.bool false) ∧ Jx (pre ++ [x]) W'))
    (W : World) (hcs : W.cell? ⟨bs, 0, none⟩ = some (.string s)) (hcn : W.cell? ⟨bn, 0, none⟩ = some (.int .i64 n)) (h0 : J [] W) :
    CallsIn Fence.wide m Try.prog 72 #[.func (.yield l) #[] #[], .pointer (some ⟨bs, 0, none⟩), .pointer (some ⟨bn, 0, none⟩)] W fun e W' => (∃ v, e = .returned v) ∧
      ((∃ ys, ys = cands n s ∧ J ys W') ∨ (∃ pre, pre <+: cands n s ∧ Jx pre W')) := by
  have hcd : cands n s = candIns s (s.size + 1) := by unfold cands; rw [if_neg (by omega), if_neg (by omega)]
  rw [hcd] at hY ⊢
  obtain rfl : n = (s.size : Int) + 1 := by omega
  have HP := fun k (hk : k ≤ s.size + 1) => hide (candIns_pre s hk)
  clear hs hcd
  have b0 : ((s.size : Int) - ((s.size : Int) + 1) == 0) = false := by rw [beq_eq_false_iff_ne]; omega
  have b1 : ((s.size : Int) - ((s.size : Int) + 1) == 1) = false := by rw [beq_eq_false_iff_ne]; omega
  have b2 : ((s.size : Int) - ((s.size : Int) + 1) == -1) = true := by rw [beq_iff_eq]; omega
  refine callsIn_of_wp Try.func72 rfl trivial ?_ rfl
  simp only [Try.ntmps72, List.size_toArray, List.length_cons, List.length_nil, Nat.reduceAdd, Nat.reduceSub, Array.replicate_succ, Array.replicate_zero, List.push_toArray, List.append_toArray, List.nil_append, List.cons_append]
  gi_wp2
  gi_loopw [37] (fun i wr => ∃ k : Nat, k ≤ s.size + 1 ∧ i = .int .i64 k ∧ wr.cell? ⟨bs, 0, none⟩ = some (.string s) ∧ J (candIns s k) wr) (fun i _ => s.size + 1 - (intOf i).toNat)
  case atStart => exact ⟨0, Nat.zero_le _, rfl, hcs, h0⟩
  case round =>
    obtain ⟨k, hk, rfl, hcs1, hJk⟩ := hrel
    by_cases hlt : k < s.size + 1
    · have hk0 : (0 : Int) ≤ (k : Int) := by omega
      have hk1 : (k : Int) ≤ (s.size : Int) := by omega
      have hkN : k ≤ s.size := by omega
      have HS := hide (candIns_succ s k)
      have HL := hide (candIns_len s k)
      have HL1 := hide (candIns_len s (s.size + 1))
      have hJd : J (candIns s k) wr.drew := hJ _ wr _ none hJk (grown_drew wr) (fun r e => by cases e)
      obtain ⟨fn, tmps, assign, body, hy, hR⟩ := hY _ (insB s k 48) wr.drew (by have := size_insB s k 48; omega) hJd (by rw [HL.out, HL1.out]; omega)
      unfold insB at hy
      gi_wp2_with fail
      have q4 : ¬ 9223372036854775807 < k + 1 := by omega
      have q5 : ¬ 9223372036854775807 < k + 1 + (s.size - k) := by omega
      have hmx : Try.prog.follows .mixedOrders = true := by kernel_rfl
      gi_region_with_o (first
        | (refine hR.mono ?_
           rintro e W3 (⟨rfl, hJ3, hk3⟩ | ⟨rfl, hJx3⟩)
           rotate_left
           gi_wp2_with fail
           refine named_any (fun c a d v w h => h) ?_
           intro Qq hQe hPq
           have hQq := hide hQe
           clear hQe
           refine wpAnyIn_take (i := 10) (v := .bool true) rfl rfl (by kernel_rfl) (by kernel_rfl) (by kernel_rfl) (fun c a w h => hPq c a _ _ w h) ⟨Or.inl ⟨by kernel_rfl, (by intro w; go_simp)⟩, fun _ => by kernel_rfl⟩ ?_
           go_simp
           refine wpAnyIn_take (i := 11) (v := .bool true) rfl rfl (by kernel_rfl) (by kernel_rfl) (by kernel_rfl) (fun c a w h => hPq c a _ _ w h) ⟨Or.inl ⟨by kernel_rfl, (by intro w; go_simp)⟩, fun _ => by kernel_rfl⟩ ?_
           go_simp
           refine wpAnyIn_take (i := 12) (v := undef) rfl rfl (by kernel_rfl) (by kernel_rfl) (by kernel_rfl) (fun c a w h => hPq c a _ _ w h) ⟨Or.inr ⟨by kernel_rfl, rfl⟩, fun _ => by kernel_rfl⟩ ?_
           go_simp
           refine wpAnyIn_take (i := 14) (v := undef) rfl rfl (by kernel_rfl) (by kernel_rfl) (by kernel_rfl) (fun c a w h => hPq c a _ _ w h) ⟨Or.inr ⟨by kernel_rfl, rfl⟩, fun _ => by kernel_rfl⟩ ?_
           go_simp
           refine wpAnyIn_take (i := 18) (v := undef) rfl rfl (by kernel_rfl) (by kernel_rfl) (by kernel_rfl) (fun c a w h => hPq c a _ _ w h) ⟨Or.inr ⟨by kernel_rfl, rfl⟩, fun _ => by kernel_rfl⟩ ?_
           go_simp
           refine wpAnyIn_ready (rs := [13, 17]) (by kernel_rfl) (by simp) ?_
           refine AllReadyIn.cons rfl (fun K hK => ?_) (AllReadyIn.cons rfl (fun K hK => ?_) AllReadyIn.nil)
           · refine ite_skip (by kernel_rfl) ?_
             refine ⟨fun _ _ => trivial, hK _ _ ?_⟩
             clear hK K
             go_simp
             refine wpAnyIn_take (i := 15) (v := undef) rfl rfl (by kernel_rfl) (by kernel_rfl) (by kernel_rfl) (fun c a w h => hPq c a _ _ w h) ⟨Or.inr ⟨by kernel_rfl, rfl⟩, fun _ => by kernel_rfl⟩ ?_
             go_simp
             refine wpAnyIn_take (i := 16) (v := undef) rfl rfl (by kernel_rfl) (by kernel_rfl) (by kernel_rfl) (fun c a w h => hPq c a _ _ w h) ⟨Or.inr ⟨by kernel_rfl, rfl⟩, fun _ => by kernel_rfl⟩ ?_
             go_simp
             refine wpAnyIn_ready (rs := [17]) (by kernel_rfl) (by simp) ?_
             refine AllReadyIn.cons rfl (fun K hK => ?_) AllReadyIn.nil
             refine ite_skip (by kernel_rfl) ?_
             refine ⟨fun _ _ => trivial, hK _ _ ?_⟩
             clear hK K
             go_simp
             refine wpAnyIn_take (i := 19) (v := undef) rfl rfl (by kernel_rfl) (by kernel_rfl) (by kernel_rfl) (fun c a w h => hPq c a _ _ w h) ⟨Or.inr ⟨by kernel_rfl, rfl⟩, fun _ => by kernel_rfl⟩ ?_
             go_simp
             refine wpAnyIn_take (i := 20) (v := undef) rfl rfl (by kernel_rfl) (by kernel_rfl) (by kernel_rfl) (fun c a w h => hPq c a _ _ w h) ⟨Or.inr ⟨by kernel_rfl, rfl⟩, fun _ => by kernel_rfl⟩ ?_
             go_simp
             refine wpAnyIn_ready (rs := [21]) (by kernel_rfl) (by simp) ?_
             refine AllReadyIn.cons rfl (fun K hK => ?_) AllReadyIn.nil
             refine ite_skip (by kernel_rfl) ?_
             refine ⟨fun _ _ => trivial, hK _ _ ?_⟩
             clear hK K
             go_simp
             refine wpAnyIn_take (i := 22) (v := undef) rfl rfl (by kernel_rfl) (by kernel_rfl) (by kernel_rfl) (fun c a w h => hPq c a _ _ w h) ⟨Or.inr ⟨by kernel_rfl, rfl⟩, fun _ => by kernel_rfl⟩ ?_
             go_simp
             refine wpAnyIn_take (i := 23) (v := .bool true) rfl rfl (by kernel_rfl) (by kernel_rfl) (by kernel_rfl) (fun c a w h => hPq c a _ _ w h) ⟨Or.inl ⟨by kernel_rfl, (by intro w; go_simp)⟩, fun _ => by kernel_rfl⟩ ?_
             go_simp
             refine wpAnyIn_done (by kernel_rfl) ?_ _
             rw [hQq.out]
             gi_wp2
             refine bodyPost_ret (results_none rfl _ _ _) rfl ?_
             exact ⟨⟨_, rfl⟩, .inr ⟨_, (List.prefix_append _ [insB s k 49]).trans (by rw [List.append_assoc]; exact HS.out ▸ (HP (k + 1) (by omega)).out), hJx3⟩⟩
           · refine ite_skip (by kernel_rfl) ?_
             refine ⟨fun _ _ => trivial, hK _ _ ?_⟩
             clear hK K
             go_simp
             refine wpAnyIn_take (i := 19) (v := undef) rfl rfl (by kernel_rfl) (by kernel_rfl) (by kernel_rfl) (fun c a w h => hPq c a _ _ w h) ⟨Or.inr ⟨by kernel_rfl, rfl⟩, fun _ => by kernel_rfl⟩ ?_
             go_simp
             refine wpAnyIn_ready (rs := [13]) (by kernel_rfl) (by simp) ?_
             refine AllReadyIn.cons rfl (fun K hK => ?_) AllReadyIn.nil
             refine ite_skip (by kernel_rfl) ?_
             refine ⟨fun _ _ => trivial, hK _ _ ?_⟩
             clear hK K
             go_simp
             refine wpAnyIn_take (i := 15) (v := undef) rfl rfl (by kernel_rfl) (by kernel_rfl) (by kernel_rfl) (fun c a w h => hPq c a _ _ w h) ⟨Or.inr ⟨by kernel_rfl, rfl⟩, fun _ => by kernel_rfl⟩ ?_
             go_simp
             refine wpAnyIn_take (i := 16) (v := undef) rfl rfl (by kernel_rfl) (by kernel_rfl) (by kernel_rfl) (fun c a w h => hPq c a _ _ w h) ⟨Or.inr ⟨by kernel_rfl, rfl⟩, fun _ => by kernel_rfl⟩ ?_
             go_simp
             refine wpAnyIn_take (i := 20) (v := undef) rfl rfl (by kernel_rfl) (by kernel_rfl) (by kernel_rfl) (fun c a w h => hPq c a _ _ w h) ⟨Or.inr ⟨by kernel_rfl, rfl⟩, fun _ => by kernel_rfl⟩ ?_
             go_simp
             refine wpAnyIn_ready (rs := [21]) (by kernel_rfl) (by simp) ?_
             refine AllReadyIn.cons rfl (fun K hK => ?_) AllReadyIn.nil
             refine ite_skip (by kernel_rfl) ?_
             refine ⟨fun _ _ => trivial, hK _ _ ?_⟩
             clear hK K
             go_simp
             refine wpAnyIn_take (i := 22) (v := undef) rfl rfl (by kernel_rfl) (by kernel_rfl) (by kernel_rfl) (fun c a w h => hPq c a _ _ w h) ⟨Or.inr ⟨by kernel_rfl, rfl⟩, fun _ => by kernel_rfl⟩ ?_
             go_simp
             refine wpAnyIn_take (i := 23) (v := .bool true) rfl rfl (by kernel_rfl) (by kernel_rfl) (by kernel_rfl) (fun c a w h => hPq c a _ _ w h) ⟨Or.inl ⟨by kernel_rfl, (by intro w; go_simp)⟩, fun _ => by kernel_rfl⟩ ?_
             go_simp
             refine wpAnyIn_done (by kernel_rfl) ?_ _
             rw [hQq.out]
             gi_wp2
             refine bodyPost_ret (results_none rfl _ _ _) rfl ?_
             exact ⟨⟨_, rfl⟩, .inr ⟨_, (List.prefix_append _ [insB s k 49]).trans (by rw [List.append_assoc]; exact HS.out ▸ (HP (k + 1) (by omega)).out), hJx3⟩⟩
           clear hR hy
           have hcs3 : W3.cell? ⟨bs, 0, none⟩ = some (.string s) := (hk3.cell (p := ⟨bs, 0, none⟩) hbs).trans hcs1
           have hlen : (candIns s k ++ [insB s k 48]).length < (candIns s (s.size + 1)).length := by rw [List.length_append, HL.out, HL1.out]; simp; omega
           obtain ⟨fn2, tmps2, assign2, body2, hy2, hR2⟩ := hY _ (insB s k 49) W3 (by have := size_insB s k 49; omega) hJ3 hlen
           unfold insB at hy2
           have hR3 := yield_cases hR2
           clear hR2 hlen)
        | (refine hR3.mono ?_
           rintro e W4 ⟨b, rfl, hT, hF⟩))
      all_goals
        clear q4 q5 hR3 hy2
        have e2 : candIns s k ++ [insB s k 48] ++ [insB s k 49] = candIns s (k + 1) := by rw [HS.out]; simp
        cases b
        · have hJx3 := hF.out rfl
          rw [e2] at hJx3
          clear e2
          gi_wp2
          refine bodyPost_ret (results_none rfl _ _ _) rfl ?_
          exact ⟨⟨_, rfl⟩, .inr ⟨_, (HP (k + 1) (by omega)).out, hJx3⟩⟩
        · obtain ⟨hJ4, hk4⟩ := hT.out rfl
          rw [e2] at hJ4
          clear e2
          have hcs4 : W4.cell? ⟨bs, 0, none⟩ = some (.string s) := (hk4.cell (p := ⟨bs, 0, none⟩) hbs).trans hcs3
          gi_wp2
          exact ⟨⟨k + 1, by omega, by go_num, hcs4, hJ4⟩, by simp [intOf]; omega⟩
    · obtain rfl : k = s.size + 1 := by omega
      gi_wp2
      go_end0
      exact ⟨⟨_, rfl⟩, .inl ⟨_, rfl, hJk⟩⟩
end Go.Proofs.Ytijeogengbphdaa
