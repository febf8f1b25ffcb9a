import Derived.Test.YtbnpjoiojhnimaaGreatDoorG1
import Derived.Lib.Strings
import Derived.Lib.Slices
import Derived.Lib.Walk
import Derived.Lib.Bytealg
import Derived.Lib.Small
import Derived.Deep.LoopGhost
set_option linter.unusedSimpArgs false
set_option linter.unusedVariables false
/- cmp.Compare at int, cmp.Or at two ints, strings.Compare, HasPrefix, CutPrefix (after the kit's templates); code.before, decodable.order. -/
namespace Go.Proofs.YtbnpjoiojhnimaaGreatDoor
open Go.RowKit
theorem cmp_Compare_int (x y : Int) (w : World) :
  Calls Tryz.prog 191 #[.int .i64 x, .int .i64 y] w fun e w' => e = .returned (.int .i64 (Lib.compareInt x y)) ∧ w' = w := by
 go_enter Tryz.func191, Tryz.ntmps191
 go_wp2
 all_goals (go_ret; refine ⟨?_, rfl⟩; unfold Lib.compareInt; (repeat' split) <;> first | rfl | (exfalso; omega))
set_option maxHeartbeats 1000000 in
set_option maxRecDepth 100000 in
theorem bytealg_CompareString (a b : ByteArray) (w : World) :
  Calls Tryz.prog 273 #[.string a, .string b] w fun e w' => e = .returned (.int .i64 (Lib.compareBytes a.data.toList b.data.toList)) ∧ w' = w := by
 go_enter Tryz.func273, Tryz.ntmps273
 go_wp2
 rw [run_callFunc_extern Tryz.func323 (by kernel_rfl) (by kernel_rfl) (by kernel_rfl) (e := Extern.BytealgCompare.compare) (by kernel_rfl), Lib.run_compareString]
 simp only [Result.andThen]
 rw [Oper.upon_value]
 go_wp2
 go_ret
 exact ⟨rfl, rfl⟩
set_option maxHeartbeats 1000000 in
theorem strings_Compare (a b : ByteArray) (w : World) :
  Calls Tryz.prog 230 #[.string a, .string b] w fun e w' => e = .returned (.int .i64 (Lib.compareBytes a.data.toList b.data.toList)) ∧ w' = w := by
 go_enter Tryz.func230, Tryz.ntmps230
 go_wp2_with (go_at_call 273; refine (bytealg_CompareString _ _ _).mono ?_; rintro e w' ⟨rfl, rfl⟩)
 go_ret
 exact ⟨rfl, rfl⟩
set_option maxHeartbeats 1000000 in
theorem strings_HasPrefix (s p : ByteArray) (w : World) :
  Calls Tryz.prog 179 #[.string s, .string p] w fun e w' => e = .returned (.bool (Lib.hasPrefix s.data.toList p.data.toList)) ∧ w' = w := by
 rw [← Lib.hasPrefix_of_take, ← Lib.size_eq, ← Lib.size_eq]
 go_enter Tryz.func179, Tryz.ntmps179
 go_wp2
 ·rename_i h
  go_ret
  refine ⟨?_, rfl⟩
  show Ending.returned (Value.bool ((s.extract 0 p.size).toList == p.toList)) = _
  rw [Lib.extract_toList, Lib.toList_data]
  simp [h]
 ·rename_i h
  go_ret
  refine ⟨?_, rfl⟩
  show Ending.returned (Value.bool false) = _
  simp [h]
set_option maxHeartbeats 1000000 in
theorem strings_CutPrefix (s p : ByteArray) (w : World) :
  Calls Tryz.prog 194 #[.string s, .string p] w fun e w' => e = .returned (.tuple #[.string ⟨(Lib.trimPrefix s.data.toList p.data.toList).toArray⟩, .bool (Lib.hasPrefix s.data.toList p.data.toList)]) ∧ w' = w := by
 go_enter Tryz.func194, Tryz.ntmps194
 go_wp2
 ·have h2 : (!((s.extract 0 p.size).toList == p.toList)) = true := by assumption
  have h3 : (decide (p.size ≤ s.size) && ((s.extract 0 p.size).toList == p.toList)) = false := by
   have : ((s.extract 0 p.size).toList == p.toList) = false := by simpa using h2
   rw [this]
   simp
  go_ret2
  refine ⟨?_, rfl⟩
  rw [Lib.trimPrefix_miss s p h3, ← Lib.hasPrefix_raw, h3]
  rfl
 ·have h1 : p.size ≤ s.size := by assumption
  have h2 : (!((s.extract 0 p.size).toList == p.toList)) = false := by assumption
  have h2' : ((s.extract 0 p.size).toList == p.toList) = true := by simpa using h2
  go_ret2
  refine ⟨?_, rfl⟩
  rw [Lib.trimPrefix_hit s p h1 h2', ← Lib.hasPrefix_raw, h2', decide_eq_true h1]
  rfl
 ·have h1 : ¬ p.size ≤ s.size := by assumption
  have h3 : (decide (p.size ≤ s.size) && ((s.extract 0 p.size).toList == p.toList)) = false := by simp [h1]
  go_ret2
  refine ⟨?_, rfl⟩
  rw [Lib.trimPrefix_miss s p h3, ← Lib.hasPrefix_raw, h3]
  rfl
set_option maxRecDepth 100000 in
set_option maxHeartbeats 1000000 in
theorem cmp_Or2 (x y R : Int) (hR : R = if x ≠ 0 then x else y) (g : Nat) (w : World) (hx : w.cell? ⟨g, 0, none⟩ = some (.int .i64 x)) (hy : w.cell? ⟨g, 1, none⟩ = some (.int .i64 y)) :
  Calls Tryz.prog 229 #[.slice (some ⟨g, 0, none⟩) 2 2] w fun e w' => e = .returned (.int .i64 R) ∧ w' = w := by
 have HR := hide hR
 clear hR
 go_enter Tryz.func229, Tryz.ntmps229
 go_wp2
 go_loopg [8] 2 (fun gk iv wr => ∃ k : Nat, gk = 2 - k ∧ iv = .int .i64 k ∧ k ≤ 2 ∧ (0 < k → x = 0) ∧ (1 < k → y = 0) ∧ wr = w)
 case atStart => exact ⟨0, rfl, rfl, by omega, fun h => by omega, fun h => by omega, rfl⟩
 case round =>
  obtain ⟨k, hgk, rfl, hk, h1, h2, rfl⟩ := hrel
  match k, hk with
  | 0, _ =>
   by_cases h : x = 0
   ·have hb : (x != 0) = false := by rw [bne_eq_false_iff_eq]; exact h
    have H := hide h
    clear h h1 h2
    go_wp2
    go_roundg 1
    case measure => omega
    case rel => exact ⟨1, rfl, rfl, by omega, fun _ => H.out, fun h => by omega, by first | exact trivial | rfl⟩
   ·have hb : (x != 0) = true := by rw [bne_iff_ne]; exact h
    have H := hide (show R = x from HR.out.trans (if_pos h))
    clear h h1 h2
    go_wp2
    go_ret
    refine ⟨?_, by first | exact trivial | rfl⟩
    rw [H.out]; rfl
  | 1, _ =>
   have h0 := h1 (by omega)
   have H := hide (show R = y from HR.out.trans (if_neg (by simp [h0])))
   by_cases h : y = 0
   ·have hb : (y != 0) = false := by rw [bne_eq_false_iff_eq]; exact h
    have H2 := hide h
    have H0 := hide h0
    clear h h0 h1 h2
    go_wp2
    go_roundg 0
    case measure => omega
    case rel => exact ⟨2, rfl, rfl, by omega, fun _ => H0.out, fun _ => H2.out, by first | exact trivial | rfl⟩
   ·have hb : (y != 0) = true := by rw [bne_iff_ne]; exact h
    clear h h0 h1 h2
    go_wp2
    go_ret
    refine ⟨?_, by first | exact trivial | rfl⟩
    rw [H.out]; rfl
  | 2, _ =>
   have h0 := h1 (by omega)
   have h0' := h2 (by omega)
   have H := hide (show R = 0 by rw [HR.out, h0, h0']; simp)
   clear h1 h2 h0 h0'
   go_wp2
   go_ret
   refine ⟨?_, by first | exact trivial | rfl⟩
   rw [H.out]; rfl
  | n + 3, hk => omega
set_option maxRecDepth 100000 in
set_option maxHeartbeats 1000000 in
theorem cdBefore_any (a b : ByteArray) (w : World) :
  Calls Tryz.prog 172 #[.string a, .string b] w fun e w' => e = .returned (.int .i64 (cmpW a.data.toList b.data.toList)) ∧ w' = w.alloc (Obj.cells #[.int .i64 (Lib.compareInt a.size b.size), .int .i64 (Lib.compareBytes a.data.toList b.data.toList)] 3) := by
 have HE := show cmpW a.data.toList b.data.toList = if Lib.compareInt a.size b.size ≠ 0 then Lib.compareInt a.size b.size else Lib.compareBytes a.data.toList b.data.toList by unfold cmpW; simp
 have H1 := hide (fun W => cmp_Compare_int (a.size : Int) (b.size : Int) W)
 have H2 := hide (fun W => strings_Compare a b W)
 generalize cmpW a.data.toList b.data.toList = R at HE ⊢
 generalize Lib.compareInt a.size b.size = x at HE H1 ⊢
 generalize Lib.compareBytes a.data.toList b.data.toList = y at HE H2 ⊢
 have H3 := hide (fun (W : World) => cmp_Or2 x y R HE W.heap.size (W.alloc (Obj.cells #[.int .i64 x, .int .i64 y] 3)) (by rw [cell_of_row _ W.heap.size 0 _ _ _ (heap_alloc_new W _)]; rfl) (by rw [cell_of_row _ W.heap.size 1 _ _ _ (heap_alloc_new W _)]; rfl))
 clear HE
 go_enter Tryz.func172, Tryz.ntmps172
 go_wp2_with (first
  | (go_at_call 191; refine (H1.out _).mono ?_; rintro e w' ⟨rfl, rfl⟩)
  | (go_at_call 230; refine (H2.out _).mono ?_; rintro e w' ⟨rfl, rfl⟩)
  | (go_at_call 229; (with_reducible refine (H3.out _).mono ?_); rintro e w' ⟨rfl, rfl⟩))
 go_ret
 exact ⟨rfl, rfl⟩
set_option maxRecDepth 100000 in
set_option maxHeartbeats 1000000 in
theorem dcorder_any (a b : ByteArray) (w : World) :
  Calls Tryz.prog 175 #[.string a, .string b] w fun e w' => e = .returned (.int .i64 (cmpW a.data.toList b.data.toList)) ∧ w' = w.alloc (Obj.cells #[.int .i64 (Lib.compareInt a.size b.size), .int .i64 (Lib.compareBytes a.data.toList b.data.toList)] 3) := by
 have HE := show cmpW a.data.toList b.data.toList = if Lib.compareInt a.size b.size ≠ 0 then Lib.compareInt a.size b.size else Lib.compareBytes a.data.toList b.data.toList by unfold cmpW; simp
 have H1 := hide (fun W => cmp_Compare_int (a.size : Int) (b.size : Int) W)
 have H2 := hide (fun W => strings_Compare a b W)
 generalize cmpW a.data.toList b.data.toList = R at HE ⊢
 generalize Lib.compareInt a.size b.size = x at HE H1 ⊢
 generalize Lib.compareBytes a.data.toList b.data.toList = y at HE H2 ⊢
 have H3 := hide (fun (W : World) => cmp_Or2 x y R HE W.heap.size (W.alloc (Obj.cells #[.int .i64 x, .int .i64 y] 3)) (by rw [cell_of_row _ W.heap.size 0 _ _ _ (heap_alloc_new W _)]; rfl) (by rw [cell_of_row _ W.heap.size 1 _ _ _ (heap_alloc_new W _)]; rfl))
 clear HE
 go_enter Tryz.func175, Tryz.ntmps175
 go_wp2_with (first
  | (go_at_call 191; refine (H1.out _).mono ?_; rintro e w' ⟨rfl, rfl⟩)
  | (go_at_call 230; refine (H2.out _).mono ?_; rintro e w' ⟨rfl, rfl⟩)
  | (go_at_call 229; (with_reducible refine (H3.out _).mono ?_); rintro e w' ⟨rfl, rfl⟩))
 go_ret
 exact ⟨rfl, rfl⟩
end Go.Proofs.YtbnpjoiojhnimaaGreatDoor
