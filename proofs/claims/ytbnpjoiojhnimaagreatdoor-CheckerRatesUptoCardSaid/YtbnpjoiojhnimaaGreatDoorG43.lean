import Derived.Test.YtbnpjoiojhnimaaGreatDoorG22
import Derived.Laws.CopyRow
import Derived.Laws.CopyOwn
import Derived.Test.YtbnpjoiojhnimaaGreatDoorG4
set_option linter.unusedSimpArgs false
set_option linter.unusedVariables false
/- A store into the midst of a certificate's block. -/
namespace Go.Proofs.YtbnpjoiojhnimaaGreatDoor
open Go.RowKit Go.Shelf
theorem wpList_clr {ops : Array Oper} {rest : List Oper} {o : Oper} {a : Act} {w : World} {Q : Exit → Act → World → Prop} (hgd : o.guard = none) (ty : TypeId) (x' y' : Operand) (ho : o.op = .store ty x' y') (hd : o.dst = none) (R off : Nat) (x x1 : Crt) (cells : Array Value)
  (hx : a.eval x' = .pointer (some ⟨R, off, none⟩)) (hy : a.eval y' = .agg cells) (hN : CrtAt w R x) (hi : (Tryz.prog.info? ty).map (·.size) = some cells.size) (hf : off + cells.size ≤ 19)
  (hn : (x.cells.toList.take off ++ cells.toList ++ x.cells.toList.drop (off + cells.size)).toArray = x1.cells) (h1 : cells.all (·.oneCell') = true)
  (h : ∀ w', CrtAt w' R x1 → Below R w w' → wpList Tryz.prog ops Q rest a w') : wpList Tryz.prog ops Q (o :: rest) a w := by
 have hc := run_storeCells_at Tryz.prog R off 38 cells.toList 0 x.cells w hN (by show off + 0 + cells.toList.length ≤ 19; simp; omega) (fun v hv => (Array.all_eq_true_iff_forall_mem.1 h1) v (by simpa using hv))
 have hv : (storeVar ty ⟨R, off, none⟩ (.agg cells)).run Tryz.prog w = .ok () (w.setRow R x1.cells) := by
  cases hq : Tryz.prog.info? ty with
  | none => simp [hq] at hi
  | some i =>
   have hs : cells.size = i.size := by simp [hq] at hi; omega
   simp only [Nat.add_zero, Array.length_toList, hn] at hc
   simp [storeVar, sizeOf, typeInfo, hq, Value.cells, hs, hc]
 refine wpList_plain hgd fun K hK => ?_
 unfold Oper.wp execOp
 simp only [ho, hx, hy, Instr.storeAt, Instr.sureAddr, Sem.run_bind, Sem.run_pure, Result.andThen_ok, hv]
 refine hK _ _ ?_
 rw [hd]
 exact h _ (setRow_heap w R _ _ _ _ hN) (below_setRow (Below.refl R w) (Nat.le_refl _) _)
theorem wpList_clr1 {ops : Array Oper} {rest : List Oper} {o : Oper} {a : Act} {w : World} {Q : Exit → Act → World → Prop} (hgd : o.guard = none) (ty : TypeId) (x' y' : Operand) (ho : o.op = .store ty x' y') (hd : o.dst = none) (R off : Nat) (x x1 : Crt) (v : Value)
  (hx : a.eval x' = .pointer (some ⟨R, off, none⟩)) (hy : a.eval y' = v) (hN : CrtAt w R x) (hi : (Tryz.prog.info? ty).map (·.size) = some 1) (hf : off < 19)
  (hn : x.cells.setIfInBounds off v = x1.cells) (h1 : v.oneCell' = true)
  (h : ∀ w', CrtAt w' R x1 → Below R w w' → wpList Tryz.prog ops Q rest a w') : wpList Tryz.prog ops Q (o :: rest) a w := by
 have hc : v.cells = #[v] := by cases v <;> simp_all [Value.oneCell', Value.cells]
 have hcell : (w.cell? ⟨R, off, none⟩).isSome = true := by rw [hN.cell off, Array.getElem?_eq_getElem (show off < x.cells.size from hf)]; rfl
 have hst : (store ⟨R, off, none⟩ v).run Tryz.prog w = .ok () (w.setRow R x1.cells) := by
  rw [run_store Tryz.prog w _ v _ h1]
  cases hq : w.cell? ⟨R, off, none⟩ with
  | none => rw [hq] at hcell; cases hcell
  | some u => simp only [hN.free_ off, setCell_eq_setRow w R off _ _ _ v hN, hn]; rfl
 have hv : (storeVar ty ⟨R, off, none⟩ v).run Tryz.prog w = .ok () (w.setRow R x1.cells) := by
  cases hq : Tryz.prog.info? ty with
  | none => simp [hq] at hi
  | some i =>
   have hs : i.size = 1 := by simpa [hq] using hi
   have hadd : (⟨R, off, none⟩ : Addr).add 0 = ⟨R, off, none⟩ := by unfold Addr.add; split <;> simp_all
   simp [storeVar, sizeOf, typeInfo, hq, hc, hs, storeCells, hadd, hst, Sem.run_bind]
 refine wpList_plain hgd fun K hK => ?_
 unfold Oper.wp execOp
 simp only [ho, hx, hy, Instr.storeAt, Instr.sureAddr, Sem.run_bind, Sem.run_pure, Result.andThen_ok, hv]
 refine hK _ _ ?_
 rw [hd]
 exact h _ (setRow_heap w R _ _ _ _ hN) (below_setRow (Below.refl R w) (Nat.le_refl _) _)
def Crt.clear1 (x : Crt) : Crt := { x with gl := 0, gs := 0, ge := .nil, pl := 0, ps := 0, pe := .nil, pw := .nil, pi := 0, pr := .nil, ix := .nil, ro := .nil }
set_option maxRecDepth 100000 in
set_option maxHeartbeats 4000000 in
theorem ckClear1_any (x : Crt) (R : Nat) (w : World) (h : CrtAt w R x) :
  Calls Tryz.prog 36 #[.pointer (some ⟨R, 0, none⟩)] w fun e w' => e = .returned (.tuple #[]) ∧ CrtAt w' R x.clear1 ∧ Below R w w' := by
 have hb0 : Below R w w := Below.refl R w
 go_enter Tryz.func36, Tryz.ntmps36
 go_wp2_with (first
  | (refine wpList_clr (by rfl) 24 _ _ (by rfl) (by rfl) R 1 (x) { x with gl := 0, gs := 0, ge := .nil } #[.int .i64 0, .int .i64 0, .slice none 0 0] (by rfl) (by rfl) (by assumption) (by kernel_rfl) (by decide) rfl (by kernel_rfl) ?_; intro w1 h1 q1)
  | (refine wpList_clr (by rfl) 34 _ _ (by rfl) (by rfl) R 8 ({ x with gl := 0, gs := 0, ge := .nil }) { x with gl := 0, gs := 0, ge := .nil, pl := 0, ps := 0, pe := .nil, pw := .nil, pi := 0, pr := .nil } #[.int .i64 0, .int .i64 0, .slice none 0 0, .slice none 0 0, .int .i64 0, .slice none 0 0] (by rfl) (by rfl) (by assumption) (by kernel_rfl) (by decide) rfl (by kernel_rfl) ?_; intro w8 h8 q8)
  | (refine wpList_clr1 (by rfl) _ _ _ (by rfl) (by rfl) R 15 ({ x with gl := 0, gs := 0, ge := .nil, pl := 0, ps := 0, pe := .nil, pw := .nil, pi := 0, pr := .nil }) { x with gl := 0, gs := 0, ge := .nil, pl := 0, ps := 0, pe := .nil, pw := .nil, pi := 0, pr := .nil, ix := .nil } (.slice none 0 0) (by rfl) (by rfl) (by assumption) (by kernel_rfl) (by decide) rfl (by kernel_rfl) ?_; intro w15 h15 q15)
  | (refine wpList_clr1 (by rfl) _ _ _ (by rfl) (by rfl) R 17 ({ x with gl := 0, gs := 0, ge := .nil, pl := 0, ps := 0, pe := .nil, pw := .nil, pi := 0, pr := .nil, ix := .nil }) { x with gl := 0, gs := 0, ge := .nil, pl := 0, ps := 0, pe := .nil, pw := .nil, pi := 0, pr := .nil, ix := .nil, ro := .nil } (.slice none 0 0) (by rfl) (by rfl) (by assumption) (by kernel_rfl) (by decide) rfl (by kernel_rfl) ?_; intro w17 h17 q17))
 go_end0
 exact ⟨rfl, h17, ((((hb0.trans q1).trans q8).trans q15).trans q17)⟩
end Go.Proofs.YtbnpjoiojhnimaaGreatDoor
namespace Go.Proofs.YtbnpjoiojhnimaaGreatDoor
open Go.RowKit
def RowS (w : World) (A : Option Addr) (xs : List ByteArray) : Prop := 0 < xs.length → ∃ a, A = some a ∧ a.block < w.heap.size ∧ ∀ k (hk : k < xs.length), w.cell? (a.add k) = some (.string xs[k])
def hasB (x : ByteArray) (xs : List ByteArray) : Bool := (xs.map fun y => y.data.toList).contains x.data.toList
theorem hasB_iff {x : ByteArray} {xs : List ByteArray} : hasB x xs = true ↔ x ∈ xs := by
 unfold hasB
 rw [List.contains_iff_mem, List.mem_map]
 constructor
 ·rintro ⟨y, h, e⟩
  rw [← ByteArray.ext (Array.toList_inj.1 e)]; exact h
 ·intro h; exact ⟨x, h, rfl⟩
theorem hasB_no {x : ByteArray} {xs : List ByteArray} (h : ¬ x ∈ xs) : hasB x xs = false := by
 rw [← Bool.not_eq_true, hasB_iff]; exact h
theorem strs_row {w : World} {B : Nat} {v : Value} {xs : List ByteArray} (h : Strs w B v xs) : ∃ A c, v = .slice A xs.length c ∧ RowS w A xs := by
 obtain ⟨A, c, rfl⟩ := h.shape
 refine ⟨A, c, rfl, fun hp => ?_⟩
 obtain ⟨g, cap, hv, hb, hg⟩ := h.form hp
 simp only [Value.slice.injEq] at hv
 obtain ⟨rfl, _, rfl⟩ := hv
 exact ⟨⟨g, 0, none⟩, rfl, hg, fun k hk => by rw [show (⟨g, 0, none⟩ : Addr).add k = ⟨g, k, none⟩ by simp [Addr.add]; omega]; exact h.cell hk⟩
theorem RowS.drewN {w : World} {A : Option Addr} {xs : List ByteArray} (h : RowS w A xs) (q : Nat) : RowS (w.drewN q) A xs := h
theorem ne_list {x a : ByteArray} (he : a ≠ x) : (x.toList == a.toList) = false := by
 rw [beq_eq_false_iff_ne]
 intro e
 rw [ByteArray.toList_eq, ByteArray.toList_eq] at e
 exact he (ByteArray.ext (Array.toList_inj.1 e.symm))
set_option maxRecDepth 100000 in
set_option maxHeartbeats 1000000 in
theorem idx_any (xs : List ByteArray) (x : ByteArray) (A : Option Addr) (c : Nat) (w : World) (hR : RowS w A xs) (hb : xs.length ≤ 4294967296) :
  Calls Tryz.prog 231 #[.slice A xs.length c, .string x] w fun e w' => (∃ z : Int, e = .returned (.int .i64 z) ∧ decide (0 ≤ z) = hasB x xs) ∧ ∃ q, w' = w.drewN q := by
 have HR := hide hR
 clear hR
 go_enter Tryz.func231, Tryz.ntmps231
 go_wp2
 go_loopw [8] (fun i wr => ∃ k q : Nat, k ≤ xs.length ∧ i = .int .i64 k ∧ Hid (∀ j (hj : j < xs.length), j < k → xs[j] ≠ x) ∧ wr = w.drewN q) (fun i _ => xs.length - (intOf i).toNat)
 case atStart => exact ⟨0, 0, Nat.zero_le _, rfl, hide fun j _ h => absurd h (by omega), rfl⟩
 case round =>
  obtain ⟨k, q, hk, rfl, hs, rfl⟩ := hrel
  by_cases hlt : k < xs.length
  ·obtain ⟨a0, rfl, hab, hcell⟩ := (HR.out.drewN q) (by omega)
   have c1 := hcell k hlt
   obtain ⟨a, ha⟩ : ∃ a, a = xs[k] := ⟨_, rfl⟩
   rw [← ha] at c1
   have HA := hide ha
   clear ha hcell
   have hk0 : (0 : Int) ≤ (k : Int) := by omega
   have hk1 : (k : Int) < (xs.length : Int) := by omega
   by_cases he : a = x
   ·have HM := hide (show x ∈ xs by rw [← he, HA.out]; exact List.getElem_mem _)
    subst he
    have hself : (a.toList == a.toList) = true := by simp
    go_wp2
    go_ret
    exact ⟨⟨k, rfl, by rw [hasB_iff.2 HM.out, decide_eq_true (by omega)]⟩, q, rfl⟩
   ·have hne := ne_list he
    have HE := hide he
    clear he
    go_wp2
    go_roundw
    case rel =>
     refine ⟨k + 1, q, by omega, by go_num, hide fun j hj hjk => ?_, rfl⟩
     by_cases e : j < k
     ·exact hs.out j hj e
     ·obtain rfl : j = k := by omega
      rw [← HA.out]; exact HE.out
    case measure => simp [intOf]; omega
  ·obtain rfl : k = xs.length := by omega
   go_wp2
   go_ret
   refine ⟨⟨-1, rfl, ?_⟩, q, rfl⟩
   have : ¬ x ∈ xs := fun h => by
    obtain ⟨j, hj, e⟩ := List.getElem_of_mem h
    exact hs.out j hj hj e
   rw [hasB_no this]; rfl
set_option maxRecDepth 100000 in
set_option maxHeartbeats 400000 in
theorem con_any (xs : List ByteArray) (x : ByteArray) (A : Option Addr) (c : Nat) (w : World) (hR : RowS w A xs) (hb : xs.length ≤ 4294967296) :
  Calls Tryz.prog 173 #[.slice A xs.length c, .string x] w fun e w' => e = .returned (.bool (hasB x xs)) ∧ ∃ q, w' = w.drewN q := by
 have HI := hide (idx_any xs x A c w hR hb)
 clear hR
 go_enter Tryz.func173, Tryz.ntmps173
 go_wp2_with fail
 refine HI.out.mono ?_
 rintro e w1 ⟨⟨z, rfl, hz⟩, q, rfl⟩
 have HZ := hide hz
 clear hz
 go_wp2
 go_ret
 exact ⟨by rw [← HZ.out]; rfl, q, rfl⟩
end Go.Proofs.YtbnpjoiojhnimaaGreatDoor
