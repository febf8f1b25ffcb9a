import Derived.Test.YtbnpjoiojhnimaaGreatDoorG12
import Derived.WalkKit
import Derived.OwnWalkIn
import Derived.TacticsInMore
import Derived.LoopNIn
import Derived.LoopIn
set_option linter.unusedSimpArgs false
set_option linter.unusedVariables false
/- matrix.column and its iterator: their contracts, for every loop body. -/
namespace Go.Proofs.YtbnpjoiojhnimaaGreatDoor
open Go.RowKit Go.Shelf
section
attribute [local go_sem] Oper.semAt_some
def encC (x : Nat × Int) : Array Value := #[.int .i64 (x.1 : Int), .agg #[.bool (ng x.2), .string (mgI x.2)]]
set_option maxHeartbeats 1000000 in
theorem column_in (G m : Nat) (k : Int) (w : World) :
  Calls Tryz.prog 188 #[.slice (some ⟨G, 0, none⟩) m m, .int .i64 k] w fun e w' => e = .returned (.func (.func 240) #[] #[.pointer (some ⟨w.heap.size, 0, none⟩), .pointer (some ⟨w.heap.size + 1, 0, none⟩)]) ∧ w' = (w.alloc (.cells #[.slice (some ⟨G, 0, none⟩) m m] 36)).alloc (.cells #[.int .i64 k] 3) := by
 go_enter Tryz.func188, Tryz.ntmps188
 go_wp2
 go_ret
 exact ⟨rfl, rfl⟩
set_option maxRecDepth 100000 in
set_option maxHeartbeats 2000000 in
theorem columnf_in {α : Type} (L : List α) (enc : α → Array Value) (F : Fence) (n : Nat) (h7 : F.fn 240) (hro : F.round = none) (hn : 1 ≤ n) (l c0 c1 B G m q k : Nat) (f : Nat → Nat → Int) (hk : k < q) (hm : m ≤ 40) (Kp : World → World → Prop) (hKr : ∀ W, Kp W W) (hKt : ∀ {X Y Z : World}, Kp X Y → Kp Y Z → Kp X Z) (hlen : L.length = m) (henc : ∀ j (h : j < L.length), enc L[j] = encC (j, f j k)) (J Jx : List α → World → Prop) (hJ : AbidesFrom B J)
  (hY : ∀ pre x W, J pre W → pre.length < m → YieldAt F (n - 1) Tryz.prog l (enc x) W fun e W' =>
   (e = .returned (.bool true) ∧ J (pre ++ [x]) W' ∧ Kp W W') ∨ (e = .returned (.bool false) ∧ Jx (pre ++ [x]) W'))
  (W : World) (hR : ∀ W', Kp W W' → Mat W' G m q f ∧ W'.cell? ⟨c1, 0, none⟩ = some (.int .i64 (k : Int))) (hC0 : W.cell? ⟨c0, 0, none⟩ = some (.slice (some ⟨G, 0, none⟩) m m)) (h0 : J [] W) :
  CallsIn F n Tryz.prog 240 #[.func (.yield l) #[] #[], .pointer (some ⟨c0, 0, none⟩), .pointer (some ⟨c1, 0, none⟩)] W fun e W' => (∃ v, e = .returned v) ∧
   ((∃ ys, ys = L ∧ J ys W') ∨ (∃ pre, pre <+: L ∧ Jx pre W')) := by
 have HR := hide hR
 clear hR
 refine callsIn_of_wp Tryz.func240 rfl h7 ?_ hro
 simp only [Tryz.ntmps240, List.size_toArray, List.length_cons, List.length_nil, Nat.reduceAdd, Nat.reduceSub, Array.replicate_succ, Array.replicate_zero, List.push_toArray, List.append_toArray, List.nil_append, List.cons_append]
 gi_wp2
 gi_loopw [8] (fun i wr => ∃ j : Nat, j ≤ m ∧ i = .int .i64 j ∧ J (L.take j) wr ∧ Kp W wr) (fun i _ => m - (intOf i).toNat)
 case atStart => exact ⟨0, Nat.zero_le _, rfl, h0, hKr _⟩
 case round =>
  obtain ⟨j, hj, rfl, hJs, hnx⟩ := hrel
  by_cases hlt : j < m
  ·obtain ⟨hMt, d1⟩ := HR.out wr hnx
   obtain ⟨R, hRl, e1, e2⟩ := hMt.read hlt
   obtain ⟨e3, e4⟩ := e2 k hk
   have hj0 : (0 : Int) ≤ (j : Int) := by omega
   have hj1 : (j : Int) < (m : Int) := by omega
   have hk0 : (0 : Int) ≤ (k : Int) := by omega
   have hk1 : (k : Int) < (q : Int) := by omega
   have hlc : j < L.length := by rw [hlen]; exact hlt
   have HPR := hide (List.take_prefix (j + 1) L)
   have hY2 := hY (L.take j) L[j] _ hJs (by rw [List.length_take]; omega)
   rw [← List.take_succ_eq_append_getElem hlc, henc j hlc] at hY2
   simp only [encC] at hY2
   obtain ⟨x, hx⟩ : ∃ x, f j k = x := ⟨_, rfl⟩
   rw [hx] at e3 e4 hY2
   have HNX := hide hnx
   clear hx e2 hJs hnx hMt
   obtain ⟨fn, tmps, assign, body, hy, hR⟩ := hY2
   gi_wp2
   refine hR.mono ?_
   rintro e W3 (⟨rfl, hJ3, hk3⟩ | ⟨rfl, hJx3⟩)
   ·gi_wp2
    go_roundw
    case rel => exact ⟨j + 1, by omega, by go_num, hJ3, hKt HNX.out hk3⟩
    case measure => simp [intOf]; omega
   ·gi_wp2
    refine bodyPost_ret (results_none rfl _ _ _) rfl ?_
    exact ⟨⟨_, rfl⟩, .inr ⟨_, HPR.out, hJx3⟩⟩
  ·obtain rfl : j = m := by omega
   gi_wp2
   go_end0
   exact ⟨⟨_, rfl⟩, .inl ⟨L, rfl, by rw [List.take_of_length_le (by omega)] at hJs; exact hJs⟩⟩
theorem columnf_stops {α : Type} (L : List α) (enc : α → Array Value) (F : Fence) (n : Nat) (h7 : F.fn 240) (hro : F.round = none) (hn : 1 ≤ n) (c0 c1 G m q k : Nat) (f : Nat → Nat → Int) (hk : k < q) (hm : m ≤ 40) (Kp : World → World → Prop) (hKr : ∀ W, Kp W W) (hKt : ∀ {X Y Z : World}, Kp X Y → Kp Y Z → Kp X Z) (hlen : L.length = m) (henc : ∀ j (h : j < L.length), enc L[j] = encC (j, f j k)) (w : World)
  (hR : ∀ W W', Below w.heap.size w W → Kp W W' → Mat W' G m q f ∧ W'.cell? ⟨c1, 0, none⟩ = some (.int .i64 (k : Int))) (hC0 : w.cell? ⟨c0, 0, none⟩ = some (.slice (some ⟨G, 0, none⟩) m m)) :
  SeqStopsK F n Tryz.prog 240 #[.pointer (some ⟨c0, 0, none⟩), .pointer (some ⟨c1, 0, none⟩)] enc Kp (fun ys => ys = L) (fun pre => pre <+: L) m w := fun l J Jx W hW hJ _ hY h0 =>
 columnf_in L enc F n h7 hro hn l c0 c1 _ G m q k f hk hm Kp hKr hKt hlen henc J Jx hJ hY W (fun W' hW' => hR W W' hW hW') ((hW.cell (p := ⟨c0, 0, none⟩) (World.block_lt_of_cell? w _ hC0)).trans hC0) h0
end
end Go.Proofs.YtbnpjoiojhnimaaGreatDoor
