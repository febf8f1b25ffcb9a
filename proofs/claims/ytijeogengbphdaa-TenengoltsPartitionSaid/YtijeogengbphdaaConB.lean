/- slices.Index and Contains of strings at any list (from XSep and XConW). -/
import Derived.Test.YtijeogengbphdaaStrs
import Derived.Test.YtijeogengbphdaaEq
set_option linter.unusedVariables false
namespace Go.Proofs.Ytijeogengbphdaa
open Go.RowKit
/-- a row of strings that lies in blocks that the call does not make -/
def RowS (w : World) (A : Option Addr) (xs : List ByteArray) : Prop := 0 < xs.length → ∃ a, A = some a ∧ a.block < w.heap.size ∧ ∀ k (hk : k < xs.length), w.cell? (a.add k) = some (.string xs[k])
theorem add_block (a : Addr) (k : Nat) : (a.add k).block = a.block := by unfold Addr.add; split <;> rfl
theorem add_zero_ (a : Addr) : a.add 0 = a := by unfold Addr.add; split <;> simp_all
theorem RowS.below {w w' : World} {A : Option Addr} {xs : List ByteArray} (h : RowS w A xs) (hB : Below w.heap.size w w') : RowS w' A xs := by
  intro h0
  obtain ⟨a, h1, h2, h3⟩ := h h0
  exact ⟨a, h1, Nat.lt_of_lt_of_le h2 hB.size, fun k hk => (hB.cell (by rw [add_block]; exact h2)).trans (h3 k hk)⟩
def hasB (x : ByteArray) (xs : List ByteArray) : Bool := (xs.map fun y => y.data.toList).contains x.data.toList
theorem hasB_iff {x : ByteArray} {xs : List ByteArray} : hasB x xs = true ↔ x ∈ xs := by
  unfold hasB
  rw [List.contains_iff_mem, List.mem_map]
  constructor
  · rintro ⟨y, h, e⟩
    rw [← ByteArray.ext (Array.toList_inj.1 e)]; exact h
  · intro h; exact ⟨x, h, rfl⟩
theorem hasB_no {x : ByteArray} {xs : List ByteArray} (h : ¬ x ∈ xs) : hasB x xs = false := by
  rw [← Bool.not_eq_true, hasB_iff]; exact h
theorem strs_row {w : World} {B : Nat} {v : Value} {xs : List ByteArray} (h : Strs w B v xs) : ∃ A c, v = .slice A xs.length c ∧ RowS w A xs := by
  obtain ⟨A, c, rfl⟩ := h.shape
  refine ⟨A, c, rfl, fun hp => ?_⟩
  obtain ⟨g, cap, hv, hb, hg⟩ := h.form hp
  simp only [Value.slice.injEq] at hv
  obtain ⟨rfl, _, rfl⟩ := hv
  exact ⟨⟨g, 0, none⟩, rfl, hg, fun k hk => by rw [show (⟨g, 0, none⟩ : Addr).add k = ⟨g, k, none⟩ by simp [Addr.add]; omega]; exact h.cell hk⟩
theorem RowS.drewN {w : World} {A : Option Addr} {xs : List ByteArray} (h : RowS w A xs) (q : Nat) : RowS (w.drewN q) A xs := h
theorem ne_list {x a : ByteArray} (he : a ≠ x) : (x.toList == a.toList) = false := by
  rw [beq_eq_false_iff_ne]
  intro e
  rw [ByteArray.toList_eq, ByteArray.toList_eq] at e
  exact he (ByteArray.ext (Array.toList_inj.1 e.symm))
set_option maxRecDepth 100000 in
set_option maxHeartbeats 1000000 in
theorem idx_any (xs : List ByteArray) (x : ByteArray) (A : Option Addr) (c : Nat) (w : World) (hR : RowS w A xs) (hb : xs.length ≤ 4294967296) :
    Calls Try.prog 55 #[.slice A xs.length c, .string x] w fun e w' => (∃ z : Int, e = .returned (.int .i64 z) ∧ decide (0 ≤ z) = hasB x xs) ∧ ∃ q, w' = w.drewN q := by
  have HR := hide hR
  clear hR
  go_enter Try.func55, Try.ntmps55
  go_wp2
  go_loopw [8] (fun i wr => ∃ k q : Nat, k ≤ xs.length ∧ i = .int .i64 k ∧ Hid (∀ j (hj : j < xs.length), j < k → xs[j] ≠ x) ∧ wr = w.drewN q) (fun i _ => xs.length - (intOf i).toNat)
  case atStart => exact ⟨0, 0, Nat.zero_le _, rfl, hide fun j _ h => absurd h (by omega), rfl⟩
  case round =>
    obtain ⟨k, q, hk, rfl, hs, rfl⟩ := hrel
    by_cases hlt : k < xs.length
    · obtain ⟨a0, rfl, hab, hcell⟩ := (HR.out.drewN q) (by omega)
      have c1 := hcell k hlt
      obtain ⟨a, ha⟩ : ∃ a, a = xs[k] := ⟨_, rfl⟩
      rw [← ha] at c1
      have HA := hide ha
      clear ha hcell
      have hk0 : (0 : Int) ≤ (k : Int) := by omega
      have hk1 : (k : Int) < (xs.length : Int) := by omega
      by_cases he : a = x
      · have HM := hide (show x ∈ xs by rw [← he, HA.out]; exact List.getElem_mem _)
        subst he
        have hself : (a.toList == a.toList) = true := by simp
        go_wp2
        go_ret
        exact ⟨⟨k, rfl, by rw [hasB_iff.2 HM.out, decide_eq_true (by omega)]⟩, q, rfl⟩
      · have hne := ne_list he
        have HE := hide he
        clear he
        go_wp2
        go_roundw
        case rel =>
          refine ⟨k + 1, q, by omega, by go_num, hide fun j hj hjk => ?_, rfl⟩
          by_cases e : j < k
          · exact hs.out j hj e
          · obtain rfl : j = k := by omega
            rw [← HA.out]; exact HE.out
        case measure => simp [intOf]; omega
    · obtain rfl : k = xs.length := by omega
      go_wp2
      go_ret
      refine ⟨⟨-1, rfl, ?_⟩, q, rfl⟩
      have : ¬ x ∈ xs := fun h => by
        obtain ⟨j, hj, e⟩ := List.getElem_of_mem h
        exact hs.out j hj hj e
      rw [hasB_no this]; rfl
set_option maxRecDepth 100000 in
set_option maxHeartbeats 400000 in
theorem con_any (xs : List ByteArray) (x : ByteArray) (A : Option Addr) (c : Nat) (w : World) (hR : RowS w A xs) (hb : xs.length ≤ 4294967296) :
    Calls Try.prog 30 #[.slice A xs.length c, .string x] w fun e w' => e = .returned (.bool (hasB x xs)) ∧ ∃ q, w' = w.drewN q := by
  have HI := hide (idx_any xs x A c w hR hb)
  clear hR
  go_enter Try.func30, Try.ntmps30
  go_wp2_with fail
  refine HI.out.mono ?_
  rintro e w1 ⟨⟨z, rfl, hz⟩, q, rfl⟩
  have HZ := hide hz
  clear hz
  go_wp2
  go_ret
  exact ⟨by rw [← HZ.out]; rfl, q, rfl⟩
end Go.Proofs.Ytijeogengbphdaa
