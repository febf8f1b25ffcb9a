import Derived.Test.YtbnpjoiojhnimaaGreatDoorG21
import Derived.Test.YtbnpjoiojhnimaaGreatDoorG22
import Derived.Test.YtbnpjoiojhnimaaGreatDoorG25
set_option linter.unusedSimpArgs false
set_option linter.unusedVariables false
/- Plain: what firsts, nexts and add do, as lists of bytes; the order of the rests is total. No program in sight. -/
namespace Go.Proofs.YtbnpjoiojhnimaaGreatDoor
def raw (x : ByteArray) : List UInt8 := x.data.toList
def raws (xs : List ByteArray) : List (List UInt8) := xs.map fun x => x.data.toList
def ofRaw (l : List UInt8) : ByteArray := ⟨l.toArray⟩
theorem raw_of (l : List UInt8) : (ofRaw l).data.toList = l := by simp [ofRaw]
theorem of_raw (x : ByteArray) : ofRaw x.data.toList = x := by cases x; simp [ofRaw]
theorem ofRaw_size (l : List UInt8) : (ofRaw l).size = l.length := by simp [ofRaw, ByteArray.size]
theorem raws_len (xs : List ByteArray) : (raws xs).length = xs.length := by simp [raws]
theorem pf_rest (x y : ByteArray) : (pf x y).map Prod.snd = Sar.fst1 x.data.toList y.data.toList := by
 unfold pf Sar.fst1 Lib.trimPrefix Lib.hasPrefix
 by_cases h : x.data.toList.isPrefixOf y.data.toList = true
 ·simp only [h, Bool.true_and, if_true, true_and]
  obtain ⟨d, hd⟩ : ∃ d, y.data.toList.drop x.data.toList.length = d := ⟨_, rfl⟩
  rw [hd]
  cases d <;> simp
 ·simp [h]
theorem frs_rests (xs : List ByteArray) : (frs xs).map Prod.snd = Sar.fstL (raws xs) := by
 unfold frs Sar.fstL raws
 simp only [List.map_flatMap, List.flatMap_map, pf_rest]
theorem nx_rest (r x : ByteArray) : (nxW r x).map Prod.fst = Sar.nxt1 r.data.toList x.data.toList := by
 unfold nxW Sar.nxt1 Lib.trimPrefix Lib.hasPrefix
 by_cases h : x.data.toList.isPrefixOf r.data.toList = true
 ·simp [h]
 ·by_cases h2 : r.data.toList.isPrefixOf x.data.toList = true
  ·simp [h, h2]
  ·simp [h, h2]
theorem nxs_rests (xs : List ByteArray) (r : ByteArray) : (nxs xs r).map Prod.fst = Sar.nxtL (raws xs) r.data.toList := by
 unfold nxs Sar.nxtL raws
 simp only [List.map_flatMap, List.flatMap_map, nx_rest]
theorem raws_add1 (out : List ByteArray) (r : ByteArray) : raws (add1R out r) = Sar.add1 (raws out) r.data.toList := by
 unfold add1R Sar.add1 raws
 split <;> simp
def addR (out : List ByteArray) (l : List (List UInt8)) : List ByteArray := l.foldl (fun o x => add1R o (ofRaw x)) out
theorem raws_addR : ∀ (l : List (List UInt8)) (out : List ByteArray), raws (addR out l) = Sar.addL (raws out) l
 | [], out => rfl
 | x :: l, out => by
  show raws (addR (add1R out (ofRaw x)) l) = Sar.addL (Sar.add1 (raws out) x) l
  rw [raws_addR l, raws_add1, raw_of]
theorem addR_snoc (out : List ByteArray) (l : List (List UInt8)) (x : List UInt8) : addR out (l ++ [x]) = add1R (addR out l) (ofRaw x) := by
 unfold addR; rw [List.foldl_append]; rfl
theorem addR_len (out : List ByteArray) (l : List (List UInt8)) : (addR out l).length ≤ out.length + l.length := by
 induction l generalizing out with
 | nil => exact Nat.le_refl _
 | cons x l ih =>
  have h := ih (add1R out (ofRaw x))
  have h2 : (add1R out (ofRaw x)).length ≤ out.length + 1 := by unfold add1R; split <;> simp
  show (addR (add1R out (ofRaw x)) l).length ≤ _
  simp only [List.length_cons]
  omega
theorem sufs_len {W : List (List UInt8)} {n : Nat} (h : ∀ x ∈ W, x.length ≤ n) : (Sar.sufs W).length ≤ (n + 1) * W.length := by
 induction W with
 | nil => simp [Sar.sufs]
 | cons x W ih =>
  have h1 := ih fun y hy => h y (List.mem_cons_of_mem _ hy)
  have h2 := h x (List.mem_cons_self ..)
  have : (Sar.sufs (x :: W)).length = x.length + 1 + (Sar.sufs W).length := by simp [Sar.sufs]
  rw [this, List.length_cons, Nat.mul_add, Nat.mul_one]
  omega
theorem sufs_size {W : List (List UInt8)} {n : Nat} (h : ∀ x ∈ W, x.length ≤ n) {r : List UInt8} (hr : r ∈ Sar.sufs W) : r.length ≤ n := by
 obtain ⟨x, t, hx, e⟩ := Sar.sufs_iff.1 hr
 have := h x hx
 rw [e, List.length_append] at this
 omega
theorem fstL_len (W : List (List UInt8)) : (Sar.fstL W).length ≤ W.length * W.length := by
 have h1 : ∀ x y, (Sar.fst1 x y).length ≤ 1 := fun x y => by unfold Sar.fst1; split <;> simp
 have h2 : ∀ x (V : List (List UInt8)), (V.flatMap fun y => Sar.fst1 x y).length ≤ V.length := fun x V => by
  induction V with
  | nil => simp
  | cons y V ih => have := h1 x y; simp only [List.flatMap_cons, List.length_append, List.length_cons]; omega
 have h3 : ∀ (V U : List (List UInt8)), (V.flatMap fun x => U.flatMap fun y => Sar.fst1 x y).length ≤ V.length * U.length := fun V U => by
  induction V with
  | nil => simp
  | cons x V ih => have := h2 x U; simp only [List.flatMap_cons, List.length_append, List.length_cons, Nat.add_mul, Nat.one_mul]; omega
 exact h3 W W
theorem nxtL_len (W : List (List UInt8)) (r : List UInt8) : (Sar.nxtL W r).length ≤ W.length := by
 have h1 : ∀ x, (Sar.nxt1 r x).length ≤ 1 := fun x => by unfold Sar.nxt1; split; simp; split <;> simp
 induction W with
 | nil => simp [Sar.nxtL]
 | cons y V ih =>
  have := h1 y
  have e : Sar.nxtL (y :: V) r = Sar.nxt1 r y ++ Sar.nxtL V r := by simp [Sar.nxtL]
  rw [e, List.length_append, List.length_cons]; omega
theorem frs_mem {xs : List ByteArray} {x : ByteArray × List UInt8} (h : x ∈ frs xs) : x.2 ∈ Sar.fstL (raws xs) := by
 rw [← frs_rests]; exact List.mem_map.2 ⟨x, h, rfl⟩
theorem nxs_mem {xs : List ByteArray} {r : ByteArray} {x : List UInt8 × Nat} (h : x ∈ nxs xs r) : x.1 ∈ Sar.nxtL (raws xs) r.data.toList := by
 rw [← nxs_rests]; exact List.mem_map.2 ⟨x, h, rfl⟩
theorem compareBytes_zero : ∀ {a b : List UInt8}, ¬ Lib.compareBytes a b < 0 → ¬ Lib.compareBytes b a < 0 → a = b
 | [], [], _, _ => rfl
 | [], _ :: _, h, _ => absurd (by simp [Lib.compareBytes]) h
 | _ :: _, [], _, h => absurd (by simp [Lib.compareBytes]) h
 | x :: a, y :: b, h1, h2 => by
  unfold Lib.compareBytes at h1 h2
  by_cases hxy : x < y
  ·rw [if_pos hxy] at h1; omega
  ·by_cases hyx : y < x
   ·rw [if_pos hyx] at h2; omega
   ·rw [if_neg hxy, if_neg hyx] at h1
    rw [if_neg hyx, if_neg hxy] at h2
    rw [compareBytes_zero h1 h2, UInt8.le_antisymm (UInt8.not_lt.1 hyx) (UInt8.not_lt.1 hxy)]
theorem cmpW_zero {a b : List UInt8} (h1 : ¬ cmpW a b < 0) (h2 : ¬ cmpW b a < 0) : a = b := by
 rw [cmpW_lt] at h1 h2
 have e : a.length = b.length := by omega
 exact compareBytes_zero (fun h => h1 (.inr ⟨e, h⟩)) (fun h => h2 (.inr ⟨e.symm, h⟩))
def leW (x y : List UInt8) : Bool := !decide (cmpW y x < 0)
def resS (xs : List ByteArray) : List (List UInt8) := (Sar.res (raws xs)).mergeSort leW
theorem mem_resS {xs : List ByteArray} {r : List UInt8} : r ∈ resS xs ↔ r ∈ Sar.res (raws xs) := (List.mergeSort_perm _ _).mem_iff
end Go.Proofs.YtbnpjoiojhnimaaGreatDoor
