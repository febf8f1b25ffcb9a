import Derived.Test.YtbnpjoiojhnimaaGreatDoorG11
import Derived.Laws.StructEq
set_option linter.unusedSimpArgs false
set_option linter.unusedVariables false
/- Equality of two values of api.Int; integer.Check: its contract, for any value. -/
namespace Go.Proofs.YtbnpjoiojhnimaaGreatDoor
open Go.RowKit
theorem int_fields : ∃ f0 f1 : Field, (Tryz.prog.fieldsOf 55).toList = [f0, f1] ∧ (f0.name ≠ "_" ∧ f0.type = 4 ∧ f0.offset = 0) ∧ (f1.name ≠ "_" ∧ f1.type = 9 ∧ f1.offset = 1) := by
 have h : (Tryz.prog.fieldsOf 55).toList.map (fun f => (decide (f.name ≠ "_"), f.type, f.offset)) = [(true, 4, 0), (true, 9, 1)] := by kernel_rfl
 match hl : (Tryz.prog.fieldsOf 55).toList with
 | [f0, f1] =>
  rw [hl] at h
  simp at h
  exact ⟨f0, f1, rfl, h.1, h.2⟩
 | [] | [_] | _ :: _ :: _ :: _ => rw [hl] at h; simp at h
theorem int_eqd (d : Nat) (W : World) (a b : Bool) (s t : ByteArray) : (Op.equalIn (d + 1 + 1) 55 (.agg #[.bool a, .string s]) (.agg #[.bool b, .string t])).run Tryz.prog W = .ok (a == b && s.toList == t.toList) W := by
 obtain ⟨f0, f1, hf, ⟨n0, t0, o0⟩, ⟨n1, t1, o1⟩⟩ := int_fields
 rw [run_equalIn_agg _ (d + 1) _ _ _ (by kernel_rfl) (by kernel_rfl), hf]
 have hb := Tryz.isAgg4
 have hs := Tryz.isAgg9
 have hp : ∀ (W : World) (cs : Array Value) (i : Nat) (v : Value), cs[i]? = some v → (part 4 cs i).run Tryz.prog W = .ok v W := by
  intro W cs i v h
  simp [part, hb, h, Result.andThen]
 have hp2 : ∀ (W : World) (cs : Array Value) (i : Nat) (v : Value), cs[i]? = some v → (part 9 cs i).run Tryz.prog W = .ok v W := by
  intro W cs i v h
  simp [part, hs, h, Result.andThen]
 simp only [Op.eqFields, t0, t1, o0, o1, n0, n1, ne_eq, not_false_eq_true, if_true, Sem.run_bind]
 rw [hp W #[.bool a, .string s] 0 (.bool a) rfl, Result.andThen_ok, hp W #[.bool b, .string t] 0 (.bool b) rfl, Result.andThen_ok, run_equalIn_bool' W d 4 a b Tryz.underlying4, Result.andThen_ok]
 by_cases e0 : a = b
 ·rw [show (a == b) = true by simpa using e0]
  simp only [Bool.not_true, Bool.false_eq_true, if_false, Bool.true_and, Sem.run_bind, Sem.run_ite]
  rw [hp2 W #[.bool a, .string s] 1 (.string s) rfl, Result.andThen_ok, hp2 W #[.bool b, .string t] 1 (.string t) rfl, Result.andThen_ok, run_equalIn_string W d 9 s t Tryz.underlying9, Result.andThen_ok]
  by_cases e1 : (s.toList == t.toList) = true
  ·rw [e1]; rfl
  ·rw [show (s.toList == t.toList) = false by simpa using e1]; rfl
 ·rw [show (a == b) = false by simpa using e0]; rfl
theorem int_eql (W : World) (a b : Bool) (s t : ByteArray) : (binOp .eql 55 (.agg #[.bool a, .string s]) (.agg #[.bool b, .string t])).run Tryz.prog W = .ok (.bool (a == b && s.toList == t.toList)) W := by
 rw [run_eql_struct, show (10000 : Nat) = 9998 + 1 + 1 from rfl, int_eqd]; rfl
theorem int_neq (W : World) (a b : Bool) (s t : ByteArray) : (binOp .neq 55 (.agg #[.bool a, .string s]) (.agg #[.bool b, .string t])).run Tryz.prog W = .ok (.bool (!(a == b && s.toList == t.toList))) W := by
 rw [run_neq_struct, show (10000 : Nat) = 9998 + 1 + 1 from rfl, int_eqd]; rfl
def canB (b : Bool) (s : ByteArray) : Bool := (b && decide (0 < bvB s)) == b && (⟨(beN (bvB s)).toArray⟩ : ByteArray).toList == s.toList
theorem canB_g (z : Int) : canB (ng z) (mgI z) = true := by
 have e : bvB (mgI z) = z.natAbs := (bv_be z.natAbs).symm
 unfold canB
 rw [e]
 have h1 : (ng z && decide (0 < z.natAbs)) = ng z := by
  unfold ng
  rw [Bool.eq_iff_iff]
  simp
  omega
 rw [h1]
 unfold mgI
 simp
theorem canB_iff {b : Bool} {s : ByteArray} (h : canB b s = true) : ∃ z : Int, b = ng z ∧ s = mgI z := by
 unfold canB at h
 rw [Bool.and_eq_true] at h
 obtain ⟨h1, h2⟩ := h
 have hs : (⟨(beN (bvB s)).toArray⟩ : ByteArray) = s := by
  have h3 := beq_iff_eq.1 h2
  rw [ByteArray.toList_eq, ByteArray.toList_eq] at h3
  have h4 : ∀ {x y : ByteArray}, x.data.toList = y.data.toList → x = y := by
   intro x y h
   cases x; cases y
   simpa using h
  exact h4 h3
 cases b with
 | false => exact ⟨(bvB s : Int), by unfold ng; simp, by unfold mgI; rw [Int.natAbs_natCast]; exact hs.symm⟩
 | true =>
  have h4 : decide (0 < bvB s) = true := by simpa using h1
  have h5 := of_decide_eq_true h4
  exact ⟨-(bvB s : Int), by unfold ng; simp; omega, by unfold mgI; rw [Int.natAbs_neg, Int.natAbs_natCast]; exact hs.symm⟩
theorem pow_limbs (n m : Nat) (h : n ≤ 4 * m) : 256 ^ n ≤ 4294967296 ^ m := by
 rw [show (4294967296 : Nat) ^ m = 256 ^ (4 * m) from by rw [Nat.pow_mul]]
 exact Nat.pow_le_pow_right (by decide) h
theorem lim_limbs {s : ByteArray} {l m : Nat} (hs : s.size ≤ 4 * m) (hl : Trm (bvB s) l) : l ≤ m := hl.le (Nat.lt_of_lt_of_le (bv_lt (s := s) rfl) (pow_limbs _ _ hs))
theorem lim_2000 {s : ByteArray} {l : Nat} (hs : s.size ≤ 8000) (hl : Trm (bvB s) l) : l ≤ 2000 := lim_limbs hs hl
set_option maxRecDepth 100000 in
set_option maxHeartbeats 2000000 in
theorem iCheck_any (b : Bool) (s : ByteArray) (hs : s.size ≤ 8000) (w : World) :
  Calls Tryz.prog 29 #[.agg #[.bool b, .string s]] w fun e w' => e = .returned (.int .i64 (if canB b s then 0 else 1)) ∧ Below w.heap.size w w' := by
 have HD := hide (fun W => idigits_s b s (bvB s) rfl (by omega) W)
 have HL := hide (fun l (hl : Trm (bvB s) l) => show l ≤ 10000 from Nat.le_trans (lim_2000 hs hl) (by decide))
 have HN := hide (fun A m c W hA h0 h1 h2 => inumber_s b A m c (bvB s) W hA h0 h1 h2)
 obtain ⟨nb, hnb⟩ : ∃ nb, (b && decide (0 < bvB s)) = nb := ⟨_, rfl⟩
 obtain ⟨t, ht⟩ : ∃ t : ByteArray, (⟨(beN (bvB s)).toArray⟩ : ByteArray) = t := ⟨_, rfl⟩
 have hcan : canB b s = (nb == b && t.toList == s.toList) := by unfold canB; rw [hnb, ht]
 rw [hnb, ht] at HN
 have hq := fun W => int_neq W nb b t s
 rw [← hcan] at hq
 have hg : Tryz.prog.eqGuardType Tryz.prog.depth 55 = false := by kernel_rfl
 have hk0 : ResI (w.alloc (Obj.cells #[Value.bool b, Value.string s] 55)) w.heap.size b s := ResI.new_ w _ _
 have hB0 : Below w.heap.size w (w.alloc (Obj.cells #[Value.bool b, Value.string s] 55)) := (Below.refl _ w).alloc (Nat.le_refl _) _
 have hs0 : (w.alloc (Obj.cells #[Value.bool b, Value.string s] 55)).heap.size = w.heap.size + 1 := by simp
 obtain ⟨Z, hZ⟩ : ∃ Z, w.heap.size = Z := ⟨_, rfl⟩
 rw [hZ] at hk0 hB0 hs0 ⊢
 obtain ⟨C, hC⟩ : ∃ C, canB b s = C := ⟨_, rfl⟩
 rw [hC] at hq ⊢
 clear hs hnb ht hcan hC
 have HZ := hide hZ
 clear hZ
 go_enter Tryz.func29, Tryz.ntmps29
 go_wp2_with fail
 try rw [HZ.out]
 generalize w.alloc (Obj.cells #[Value.bool b, Value.string s] 55) = W0 at hk0 hB0 hs0 ⊢
 have hAcc : Below (Z + 1) W0 W0.drew := (Below.refl _ _).drew
 have k : ResI W0.drew Z b s := hk0
 have lZ : Z < Z + 1 := Nat.lt_succ_self _
 go_region_held3 (fun W => W.cell? ⟨Z, 0, none⟩ = some (.bool b) ∧ W.cell? ⟨Z, 1, none⟩ = some (.string s))
  (first | with_reducible exact ⟨k.c0, k.c1⟩)
  (first
   | (go_at_call 72; (with_reducible refine (HD.out _).mono ?_); rintro e w2 ⟨v3, rfl, hn3, hB2⟩; obtain ⟨A3, l3, c3, rfl, ht3, hlc3, ha3⟩ := hn3; have HT4 := hide ht3.1; have HT3 := hide ht3; have HL3 := hide (HL.out l3 ht3); have HA3 := hide ha3; have HLC := hide hlc3; clear ht3 ha3 hlc3; replace hAcc := hAcc.trans (hB2.mono (Nat.le_trans (Nat.le_of_eq hs0.symm) hAcc.size)); replace k := hk0.below hAcc lZ)
   | (go_at_call 66; (with_reducible refine (HN.out A3 l3 c3 _ HA3.out HT4 HL3.out HLC.out).mono ?_); rintro e w3 ⟨rfl, hB3⟩; replace hAcc := hAcc.trans (hB3.mono (Nat.le_trans (Nat.le_of_eq hs0.symm) hAcc.size)); replace k := hk0.below hAcc lZ))
 all_goals (
  cases C
  ·go_wp2
   go_ret
   exact ⟨rfl, hB0.trans (hAcc.mono (by omega))⟩
  ·go_wp2
   go_ret
   exact ⟨rfl, hB0.trans (hAcc.mono (by omega))⟩)
end Go.Proofs.YtbnpjoiojhnimaaGreatDoor
