/- slices.Index and Contains of strings at any list; the function value of IndelConfuses and slices.ContainsFunc with it. -/
import Derived.Test.YtmajalpmbppkpaaSep
set_option linter.unusedVariables false
namespace Go.Proofs.Ytmajalpmbppkpaa
open Go.RowKit
def hasB (x : ByteArray) (xs : List ByteArray) : Bool := (xs.map fun y => y.data.toList).contains x.data.toList
theorem hasB_iff {x : ByteArray} {xs : List ByteArray} : hasB x xs = true ↔ x ∈ xs := by
  unfold hasB
  rw [List.contains_iff_mem, List.mem_map]
  constructor
  · rintro ⟨y, h, e⟩
    rw [← ByteArray.ext (Array.toList_inj.1 e)]; exact h
  · intro h; exact ⟨x, h, rfl⟩
theorem hasB_no {x : ByteArray} {xs : List ByteArray} (h : ¬ x ∈ xs) : hasB x xs = false := by
  rw [← Bool.not_eq_true, hasB_iff]; exact h
theorem strs_row {w : World} {B : Nat} {v : Value} {xs : List ByteArray} (h : Strs w B v xs) : ∃ A c, v = .slice A xs.length c ∧ RowS w A xs := by
  obtain ⟨A, c, rfl⟩ := h.shape
  refine ⟨A, c, rfl, fun hp => ?_⟩
  obtain ⟨g, cap, hv, hb, hg⟩ := h.form hp
  simp only [Value.slice.injEq] at hv
  obtain ⟨rfl, _, rfl⟩ := hv
  exact ⟨⟨g, 0, none⟩, rfl, hg, fun k hk => by rw [show (⟨g, 0, none⟩ : Addr).add k = ⟨g, k, none⟩ by simp [Addr.add]; omega]; exact h.cell hk⟩
theorem RowS.drewN {w : World} {A : Option Addr} {xs : List ByteArray} (h : RowS w A xs) (q : Nat) : RowS (w.drewN q) A xs := h
theorem ne_list {x a : ByteArray} (he : a ≠ x) : (x.toList == a.toList) = false := by
  rw [beq_eq_false_iff_ne]
  intro e
  rw [ByteArray.toList_eq, ByteArray.toList_eq] at e
  exact he (ByteArray.ext (Array.toList_inj.1 e.symm))
set_option maxRecDepth 100000 in
set_option maxHeartbeats 1000000 in
theorem idx_any (xs : List ByteArray) (x : ByteArray) (A : Option Addr) (c : Nat) (w : World) (hR : RowS w A xs) (hb : xs.length ≤ 4294967296) :
    Calls Try.prog 75 #[.slice A xs.length c, .string x] w fun e w' => (∃ z : Int, e = .returned (.int .i64 z) ∧ decide (0 ≤ z) = hasB x xs) ∧ ∃ q, w' = w.drewN q := by
  have HR := hide hR
  clear hR
  go_enter Try.func75, Try.ntmps75
  go_wp2
  go_loopw [8] (fun i wr => ∃ k q : Nat, k ≤ xs.length ∧ i = .int .i64 k ∧ Hid (∀ j (hj : j < xs.length), j < k → xs[j] ≠ x) ∧ wr = w.drewN q) (fun i _ => xs.length - (intOf i).toNat)
  case atStart => exact ⟨0, 0, Nat.zero_le _, rfl, hide fun j _ h => absurd h (by omega), rfl⟩
  case round =>
    obtain ⟨k, q, hk, rfl, hs, rfl⟩ := hrel
    by_cases hlt : k < xs.length
    · obtain ⟨a0, rfl, hab, hcell⟩ := (HR.out.drewN q) (by omega)
      have c1 := hcell k hlt
      obtain ⟨a, ha⟩ : ∃ a, a = xs[k] := ⟨_, rfl⟩
      rw [← ha] at c1
      have HA := hide ha
      clear ha hcell
      have hk0 : (0 : Int) ≤ (k : Int) := by omega
      have hk1 : (k : Int) < (xs.length : Int) := by omega
      by_cases he : a = x
      · have HM := hide (show x ∈ xs by rw [← he, HA.out]; exact List.getElem_mem _)
        subst he
        have hself : (a.toList == a.toList) = true := by simp
        go_wp2
        go_ret
        exact ⟨⟨k, rfl, by rw [hasB_iff.2 HM.out, decide_eq_true (by omega)]⟩, q, rfl⟩
      · have hne := ne_list he
        have HE := hide he
        clear he
        go_wp2
        go_roundw
        case rel =>
          refine ⟨k + 1, q, by omega, by go_num, hide fun j hj hjk => ?_, rfl⟩
          by_cases e : j < k
          · exact hs.out j hj e
          · obtain rfl : j = k := by omega
            rw [← HA.out]; exact HE.out
        case measure => simp [intOf]; omega
    · obtain rfl : k = xs.length := by omega
      go_wp2
      go_ret
      refine ⟨⟨-1, rfl, ?_⟩, q, rfl⟩
      have : ¬ x ∈ xs := fun h => by
        obtain ⟨j, hj, e⟩ := List.getElem_of_mem h
        exact hs.out j hj hj e
      rw [hasB_no this]; rfl
set_option maxRecDepth 100000 in
set_option maxHeartbeats 400000 in
theorem con_any (xs : List ByteArray) (x : ByteArray) (A : Option Addr) (c : Nat) (w : World) (hR : RowS w A xs) (hb : xs.length ≤ 4294967296) :
    Calls Try.prog 40 #[.slice A xs.length c, .string x] w fun e w' => e = .returned (.bool (hasB x xs)) ∧ ∃ q, w' = w.drewN q := by
  have HI := hide (idx_any xs x A c w hR hb)
  clear hR
  go_enter Try.func40, Try.ntmps40
  go_wp2_with fail
  refine HI.out.mono ?_
  rintro e w1 ⟨⟨z, rfl, hz⟩, q, rfl⟩
  have HZ := hide hz
  clear hz
  go_wp2
  go_ret
  exact ⟨by rw [← HZ.out]; rfl, q, rfl⟩
set_option maxRecDepth 100000 in
set_option maxHeartbeats 400000 in
theorem conff_any (ys : List ByteArray) (A : Option Addr) (c B : Nat) (x : ByteArray) (w : World) (hB : w.cell? ⟨B, 0, none⟩ = some (.slice A ys.length c)) (hR : RowS w A ys) (hb : ys.length ≤ 4294967296) :
    Calls Try.prog 52 #[.string x, .pointer (some ⟨B, 0, none⟩)] w fun e w' => e = .returned (.bool (hasB x ys)) ∧ ∃ q, w' = w.drewN q := by
  have HI := hide (con_any ys x A c w hR hb)
  clear hR
  go_enter Try.func52, Try.ntmps52
  go_wp2_with fail
  refine HI.out.mono ?_
  rintro e w1 ⟨rfl, q, rfl⟩
  go_wp2
  go_ret
  exact ⟨rfl, q, rfl⟩
set_option maxRecDepth 100000 in
set_option maxHeartbeats 1000000 in
theorem idxcf_any (xs ys : List ByteArray) (A A2 : Option Addr) (c c2 B : Nat) (w : World) (hB : w.cell? ⟨B, 0, none⟩ = some (.slice A2 ys.length c2)) (hR2 : RowS w A2 ys) (hR : RowS w A xs) (hb : xs.length ≤ 4294967296) (hb2 : ys.length ≤ 4294967296) :
    Calls Try.prog 79 #[.slice A xs.length c, .func (.func 52) #[] #[.pointer (some ⟨B, 0, none⟩)]] w fun e w' => (∃ z : Int, e = .returned (.int .i64 z) ∧ decide (0 ≤ z) = xs.any fun x => hasB x ys) ∧ ∃ q, w' = w.drewN q := by
  have HR := hide hR
  have HF := hide (fun q a => conff_any ys A2 c2 B a (w.drewN q) hB (hR2.drewN q) hb2)
  clear hR hR2 hB
  go_enter Try.func79, Try.ntmps79
  go_wp2
  go_loopw [8] (fun i wr => ∃ k q : Nat, k ≤ xs.length ∧ i = .int .i64 k ∧ Hid (∀ j (hj : j < xs.length), j < k → hasB xs[j] ys = false) ∧ wr = w.drewN q) (fun i _ => xs.length - (intOf i).toNat)
  case atStart => exact ⟨0, 0, Nat.zero_le _, rfl, hide fun j _ h => absurd h (by omega), rfl⟩
  case round =>
    obtain ⟨k, q, hk, rfl, hs, rfl⟩ := hrel
    by_cases hlt : k < xs.length
    · obtain ⟨a0, rfl, hab, hcell⟩ := (HR.out.drewN q) (by omega)
      have c1 := hcell k hlt
      obtain ⟨a, ha⟩ : ∃ a, a = xs[k] := ⟨_, rfl⟩
      rw [← ha] at c1
      have HA := hide ha
      clear ha hcell
      have hk0 : (0 : Int) ≤ (k : Int) := by omega
      have hk1 : (k : Int) < (xs.length : Int) := by omega
      by_cases h6 : hasB a ys = true
      · have H6 := hide h6
        clear h6
        go_wp2_with (go_at_call 52; refine (HF.out q a).mono ?_; rintro e w1 ⟨rfl, n1, rfl⟩; rw [H6.out])
        go_ret
        refine ⟨⟨k, rfl, ?_⟩, q + n1, by simp⟩
        have : (xs.any fun x => hasB x ys) = true := by
          rw [List.any_eq_true]
          exact ⟨xs[k], List.getElem_mem hlt, by rw [← HA.out, H6.out]⟩
        rw [this]; simp
      · have H6 := hide (show hasB a ys = false by simpa using h6)
        clear h6
        go_wp2_with (go_at_call 52; refine (HF.out q a).mono ?_; rintro e w1 ⟨rfl, n1, rfl⟩; rw [H6.out])
        go_roundw
        case rel =>
          refine ⟨k + 1, q + n1, by omega, by go_num, hide fun j hj hjk => ?_, by simp⟩
          by_cases e : j < k
          · exact hs.out j hj e
          · obtain rfl : j = k := by omega
            rw [← HA.out]; exact H6.out
        case measure => simp [intOf]; omega
    · obtain rfl : k = xs.length := by omega
      go_wp2
      go_ret
      refine ⟨⟨-1, rfl, ?_⟩, q, rfl⟩
      have : (xs.any fun x => hasB x ys) = false := by
        rw [List.any_eq_false]
        intro x hx
        obtain ⟨j, hj, rfl⟩ := List.getElem_of_mem hx
        rw [hs.out j hj hj]; simp
      rw [this]; rfl
set_option maxRecDepth 100000 in
set_option maxHeartbeats 1000000 in
theorem contcf_any (xs ys : List ByteArray) (A A2 : Option Addr) (c c2 B : Nat) (w : World) (hB : w.cell? ⟨B, 0, none⟩ = some (.slice A2 ys.length c2)) (hR2 : RowS w A2 ys) (hR : RowS w A xs) (hb : xs.length ≤ 4294967296) (hb2 : ys.length ≤ 4294967296) :
    Calls Try.prog 45 #[.slice A xs.length c, .func (.func 52) #[] #[.pointer (some ⟨B, 0, none⟩)]] w fun e w' => e = .returned (.bool (xs.any fun x => hasB x ys)) ∧ ∃ q, w' = w.drewN q := by
  have HI := hide (idxcf_any xs ys A A2 c c2 B w hB hR2 hR hb hb2)
  clear hR hR2 hB
  go_enter Try.func45, Try.ntmps45
  go_wp2_with fail
  refine HI.out.mono ?_
  rintro e w1 ⟨⟨z, rfl, hz⟩, q, rfl⟩
  have HZ := hide hz
  clear hz
  go_wp2
  go_ret
  exact ⟨by rw [← HZ.out]; rfl, q, rfl⟩
end Go.Proofs.Ytmajalpmbppkpaa
