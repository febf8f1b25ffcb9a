/- groovelaw47.fine: words over 16 letters of up to n letters; slices.ContainsFunc and IndexFunc with its function value. -/
import Derived.Test.YtmajalpmbppkpaaDis
set_option linter.unusedVariables false
namespace Go.Proofs.Ytmajalpmbppkpaa
open Go.RowKit
def fin (n : Nat) (s : ByteArray) : Bool := decide (s.size ≤ n) && decide (chk 16 s.data.toList = 0)
theorem chk_neq (s : ByteArray) : (chk 16 s.data.toList != 0) = !decide (chk 16 s.data.toList = 0) := by
  by_cases h : chk 16 s.data.toList = 0 <;> simp [h]
set_option maxRecDepth 100000 in
set_option maxHeartbeats 400000 in
theorem finef_any (n B : Nat) (s : ByteArray) (w : World) (hc : w.cell? ⟨B, 0, none⟩ = some (.int .i64 (n : Int))) :
    Calls Try.prog 60 #[.string s, .pointer (some ⟨B, 0, none⟩)] w fun e w' => e = .returned (.bool (!fin n s)) ∧ ∃ q, w' = w.drewN q := by
  by_cases h : s.size ≤ n
  · have hd : decide (n < s.size) = false := by rw [decide_eq_false_iff_not]; omega
    have HF := hide (show (!fin n s) = (chk 16 s.data.toList != 0) by rw [chk_neq]; unfold fin; simp [h])
    clear h
    go_enter Try.func60, Try.ntmps60
    go_wp2_with (go_at_call 61; refine (wcheck_any _ _ _).mono ?_; rintro e w1 ⟨rfl, n1, rfl⟩)
    go_ret
    exact ⟨by rw [HF.out]; rfl, n1, rfl⟩
  · have hd : decide (n < s.size) = true := by rw [decide_eq_true_iff]; omega
    have HF := hide (show (!fin n s) = true by unfold fin; simp [h])
    clear h
    go_enter Try.func60, Try.ntmps60
    go_wp2_with fail
    go_ret
    exact ⟨by rw [HF.out]; rfl, 0, rfl⟩
set_option maxRecDepth 100000 in
set_option maxHeartbeats 1000000 in
theorem idxfn_any (xs : List ByteArray) (n B g c : Nat) (w : World) (hB : w.cell? ⟨B, 0, none⟩ = some (.int .i64 (n : Int))) (h1 : ∀ k (hk : k < xs.length), w.cell? ⟨g, k, none⟩ = some (.string xs[k])) (hb : xs.length ≤ 4294967296) :
    Calls Try.prog 79 #[.slice (some ⟨g, 0, none⟩) xs.length c, .func (.func 60) #[] #[.pointer (some ⟨B, 0, none⟩)]] w fun e w' => (∃ z : Int, e = .returned (.int .i64 z) ∧ decide (0 ≤ z) = !xs.all (fin n)) ∧ ∃ q, w' = w.drewN q := by
  have H1 := hide h1
  clear h1
  go_enter Try.func79, Try.ntmps79
  go_wp2
  go_loopw [8] (fun i wr => ∃ k q : Nat, k ≤ xs.length ∧ i = .int .i64 k ∧ Hid (∀ j (hj : j < xs.length), j < k → fin n xs[j] = true) ∧ wr = w.drewN q) (fun i _ => xs.length - (intOf i).toNat)
  case atStart => exact ⟨0, 0, Nat.zero_le _, rfl, hide fun j _ h => absurd h (by omega), rfl⟩
  case round =>
    obtain ⟨k, q, hk, rfl, hs, rfl⟩ := hrel
    by_cases hlt : k < xs.length
    · have c1 := H1.out k hlt
      obtain ⟨a, ha⟩ : ∃ a, a = xs[k] := ⟨_, rfl⟩
      rw [← ha] at c1
      have HA := hide ha
      clear ha
      have hk0 : (0 : Int) ≤ (k : Int) := by omega
      have hk1 : (k : Int) < (xs.length : Int) := by omega
      have HF := hide (fun W hW => finef_any n B a W hW)
      have hB2 : (w.drewN q).cell? ⟨B, 0, none⟩ = some (.int .i64 (n : Int)) := hB
      by_cases h6 : fin n a = true
      · have H6 := hide h6
        clear h6
        go_wp2_with (go_at_call 60; refine (HF.out _ hB2).mono ?_; rintro e w1 ⟨rfl, n1, rfl⟩; rw [H6.out])
        go_roundw
        case rel =>
          refine ⟨k + 1, q + n1, by omega, by go_num, hide fun j hj hjk => ?_, by simp⟩
          by_cases e : j < k
          · exact hs.out j hj e
          · obtain rfl : j = k := by omega
            rw [← HA.out]; exact H6.out
        case measure => simp [intOf]; omega
      · have H6 := hide (show fin n a = false by simpa using h6)
        clear h6
        go_wp2_with (go_at_call 60; refine (HF.out _ hB2).mono ?_; rintro e w1 ⟨rfl, n1, rfl⟩; rw [H6.out])
        go_ret
        refine ⟨⟨k, rfl, ?_⟩, q + n1, by simp⟩
        have : xs.all (fin n) = false := by
          rw [List.all_eq_false]
          exact ⟨xs[k], List.getElem_mem hlt, by rw [← HA.out, H6.out]; simp⟩
        rw [this]; simp
    · obtain rfl : k = xs.length := by omega
      go_wp2
      go_ret
      refine ⟨⟨-1, rfl, ?_⟩, q, rfl⟩
      have : xs.all (fin n) = true := by
        rw [List.all_eq_true]
        intro x hx
        obtain ⟨j, hj, rfl⟩ := List.getElem_of_mem hx
        exact hs.out j hj hj
      rw [this]; rfl
set_option maxRecDepth 100000 in
set_option maxHeartbeats 1000000 in
theorem contfn_any (xs : List ByteArray) (n B g c : Nat) (w : World) (hB : w.cell? ⟨B, 0, none⟩ = some (.int .i64 (n : Int))) (h1 : ∀ k (hk : k < xs.length), w.cell? ⟨g, k, none⟩ = some (.string xs[k])) (hb : xs.length ≤ 4294967296) :
    Calls Try.prog 45 #[.slice (some ⟨g, 0, none⟩) xs.length c, .func (.func 60) #[] #[.pointer (some ⟨B, 0, none⟩)]] w fun e w' => e = .returned (.bool (!xs.all (fin n))) ∧ ∃ q, w' = w.drewN q := by
  have HI := hide (idxfn_any xs n B g c w hB h1 hb)
  clear h1
  go_enter Try.func45, Try.ntmps45
  go_wp2_with fail
  refine HI.out.mono ?_
  rintro e w1 ⟨⟨z, rfl, hz⟩, q, rfl⟩
  have HZ := hide hz
  clear hz
  go_wp2
  go_ret
  exact ⟨by rw [← HZ.out]; rfl, q, rfl⟩
set_option maxRecDepth 100000 in
set_option maxHeartbeats 1000000 in
theorem fine_any (xs : List ByteArray) (n g c : Nat) (w : World) (h1 : ∀ k (hk : k < xs.length), w.cell? ⟨g, k, none⟩ = some (.string xs[k])) (hb : xs.length ≤ 4294967296) :
    Calls Try.prog 23 #[.int .i64 (n : Int), .slice (some ⟨g, 0, none⟩) xs.length c] w fun e w' => e = .returned (.bool (xs.all (fin n))) ∧ Below w.heap.size w w' := by
  have hrow : ∀ k (hk : k < xs.length), (w.alloc (Obj.cells #[Value.int .i64 (n : Int)] 3)).cell? ⟨g, k, none⟩ = some (.string xs[k]) := by
    intro k hk
    have h := h1 k hk
    exact (World.cell?_alloc_lt w _ ⟨g, k, none⟩ (World.block_lt_of_cell? w _ h)).trans h
  have hbox : (w.alloc (Obj.cells #[Value.int .i64 (n : Int)] 3)).cell? ⟨w.heap.size, 0, none⟩ = some (.int .i64 (n : Int)) := cell_of_one (heap_alloc_new w _)
  have HC := hide (contfn_any xs n w.heap.size g c _ hbox hrow hb)
  have HB := hide ((Below.refl w.heap.size w).alloc (Nat.le_refl _) (Obj.cells #[Value.int .i64 (n : Int)] 3))
  clear h1 hrow hbox
  go_enter Try.func23, Try.ntmps23
  go_wp2_with fail
  refine HC.out.mono ?_
  rintro e w1 ⟨rfl, q, rfl⟩
  go_wp2
  go_ret
  exact ⟨by simp [go_sem], belowN HB.out q⟩
end Go.Proofs.Ytmajalpmbppkpaa
