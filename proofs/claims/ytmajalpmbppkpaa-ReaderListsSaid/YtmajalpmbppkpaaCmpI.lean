/- slices.Equal of ints, grooveref58.same; reader.Good, Lost and the reference's. -/
import Derived.Test.YtmajalpmbppkpaaNuR
set_option linter.unusedVariables false
namespace Go.Proofs.Ytmajalpmbppkpaa
open Go.RowKit
set_option maxRecDepth 100000 in
set_option maxHeartbeats 1000000 in
theorem slEqI_any (xs ys : List Int) (A A2 : Option Addr) (c c2 : Nat) (w : World) (h1 : RowI w A xs) (h2 : RowI w A2 ys) (hb : xs.length ≤ 4294967296) (hb2 : ys.length ≤ 4294967296) :
    Calls Try.prog 18 #[.slice A xs.length c, .slice A2 ys.length c2] w fun e w' => e = .returned (.bool (decide (xs = ys))) ∧ ∃ q, w' = w.drewN q := by
  have H1 := hide h1
  have H2 := hide h2
  clear h1 h2
  by_cases hl : xs.length = ys.length
  · have HL := hide hl
    have hn : (((xs.length : Int)) != (ys.length : Int)) = false := by rw [bne_eq_false_iff_eq]; omega
    clear hl
    go_enter Try.func18, Try.ntmps18
    go_wp2
    go_loopw [13] (fun i wr => ∃ k q : Nat, k ≤ xs.length ∧ i = .int .i64 k ∧ Hid (∀ j (hj : j < xs.length) (hj2 : j < ys.length), j < k → xs[j] = ys[j]) ∧ wr = w.drewN q) (fun i _ => xs.length - (intOf i).toNat)
    case atStart => exact ⟨0, 0, Nat.zero_le _, rfl, hide fun j _ _ h => absurd h (by omega), rfl⟩
    case round =>
      obtain ⟨k, q, hk, rfl, hsame, rfl⟩ := hrel
      by_cases hlt : k < xs.length
      · have hlt2 : k < ys.length := by have := HL.out; omega
        obtain ⟨b1, o1, rfl, _, e1⟩ := H1.out (by omega)
        obtain ⟨b2, o2, rfl, _, e2⟩ := H2.out (by omega)
        have c1 := e1 k hlt
        have c2 := e2 k hlt2
        obtain ⟨x, hx⟩ : ∃ x, x = xs[k] := ⟨_, rfl⟩
        obtain ⟨y, hy⟩ : ∃ y, y = ys[k] := ⟨_, rfl⟩
        rw [← hx] at c1
        rw [← hy] at c2
        have HX := hide hx
        have HY := hide hy
        clear hx hy e1 e2
        have hk0 : (0 : Int) ≤ (k : Int) := by omega
        have hk1 : (k : Int) < (xs.length : Int) := by omega
        have hk2 : (k : Int) < (ys.length : Int) := by omega
        by_cases hab : x = y
        · have hbb : (x != y) = false := by simpa using hab
          have HAB := hide hab
          clear hab
          go_wp2_with fail
          go_quiet (fail)
          go_wp2
          go_roundw
          case rel =>
            refine ⟨k + 1, q + nq, by omega, by go_num, hide fun j hj hj2 hjk => ?_, by simp⟩
            by_cases e : j < k
            · exact hsame.out j hj hj2 e
            · obtain rfl : j = k := by omega
              rw [← HX.out, ← HY.out]; exact HAB.out
          case measure => simp [intOf]; omega
        · have hbb : (x != y) = true := by simpa using hab
          have HAB := hide hab
          clear hab
          go_wp2_with fail
          go_quiet (fail)
          go_wp2
          go_ret
          refine ⟨?_, q + nq, by simp⟩
          have hne : decide (xs = ys) = false := by
            rw [decide_eq_false_iff_not]
            intro e
            subst e
            exact HAB.out (by rw [HX.out, HY.out])
          rw [hne]; rfl
      · obtain rfl : k = xs.length := by omega
        go_wp2
        go_ret
        refine ⟨?_, q, rfl⟩
        have he : decide (xs = ys) = true := by
          rw [decide_eq_true_iff]
          exact List.ext_getElem HL.out fun j h1 h2 => hsame.out j h1 h2 h1
        rw [he]; rfl
  · have hn : (((xs.length : Int)) != (ys.length : Int)) = true := by rw [bne_iff_ne]; omega
    have HD := hide (show decide (xs = ys) = false by rw [decide_eq_false_iff_not]; intro e; exact hl (by rw [e]))
    clear hl
    go_enter Try.func18, Try.ntmps18
    go_wp2
    go_ret
    exact ⟨by rw [HD.out]; rfl, 0, rfl⟩
set_option maxRecDepth 100000 in
set_option maxHeartbeats 1000000 in
theorem same58_any (xs ys : List Int) (A A2 : Option Addr) (c c2 : Nat) (w : World) (h1 : RowI w A xs) (h2 : RowI w A2 ys) (hb : xs.length ≤ 4294967296) (hb2 : ys.length ≤ 4294967296) :
    Calls Try.prog 57 #[.slice A xs.length c, .slice A2 ys.length c2] w fun e w' => e = .returned (.bool (decide (xs = ys))) ∧ ∃ q, w' = w.drewN q := by
  have H1 := hide h1
  have H2 := hide h2
  clear h1 h2
  by_cases hl : xs.length = ys.length
  · have HL := hide hl
    have hn : (((xs.length : Int)) != (ys.length : Int)) = false := by rw [bne_eq_false_iff_eq]; omega
    clear hl
    go_enter Try.func57, Try.ntmps57
    go_wp2
    go_loopw [5] (fun i wr => ∃ k q : Nat, k ≤ xs.length ∧ i = .int .i64 k ∧ Hid (∀ j (hj : j < xs.length) (hj2 : j < ys.length), j < k → xs[j] = ys[j]) ∧ wr = w.drewN q) (fun i _ => xs.length - (intOf i).toNat)
    case atStart => exact ⟨0, 0, Nat.zero_le _, rfl, hide fun j _ _ h => absurd h (by omega), rfl⟩
    case round =>
      obtain ⟨k, q, hk, rfl, hsame, rfl⟩ := hrel
      by_cases hlt : k < xs.length
      · have hlt2 : k < ys.length := by have := HL.out; omega
        obtain ⟨b1, o1, rfl, _, e1⟩ := H1.out (by omega)
        obtain ⟨b2, o2, rfl, _, e2⟩ := H2.out (by omega)
        have c1 := e1 k hlt
        have c2 := e2 k hlt2
        obtain ⟨x, hx⟩ : ∃ x, x = xs[k] := ⟨_, rfl⟩
        obtain ⟨y, hy⟩ : ∃ y, y = ys[k] := ⟨_, rfl⟩
        rw [← hx] at c1
        rw [← hy] at c2
        have HX := hide hx
        have HY := hide hy
        clear hx hy e1 e2
        have hk0 : (0 : Int) ≤ (k : Int) := by omega
        have hk1 : (k : Int) < (xs.length : Int) := by omega
        have hk2 : (k : Int) < (ys.length : Int) := by omega
        by_cases hab : x = y
        · have hbb : (x != y) = false := by simpa using hab
          have HAB := hide hab
          clear hab
          go_wp2_with fail
          go_quiet (fail)
          go_wp2
          go_roundw
          case rel =>
            refine ⟨k + 1, q + nq, by omega, by go_num, hide fun j hj hj2 hjk => ?_, by simp⟩
            by_cases e : j < k
            · exact hsame.out j hj hj2 e
            · obtain rfl : j = k := by omega
              rw [← HX.out, ← HY.out]; exact HAB.out
          case measure => simp [intOf]; omega
        · have hbb : (x != y) = true := by simpa using hab
          have HAB := hide hab
          clear hab
          go_wp2_with fail
          go_quiet (fail)
          go_wp2
          go_ret
          refine ⟨?_, q + nq, by simp⟩
          have hne : decide (xs = ys) = false := by
            rw [decide_eq_false_iff_not]
            intro e
            subst e
            exact HAB.out (by rw [HX.out, HY.out])
          rw [hne]; rfl
      · obtain rfl : k = xs.length := by omega
        go_wp2
        go_ret
        refine ⟨?_, q, rfl⟩
        have he : decide (xs = ys) = true := by
          rw [decide_eq_true_iff]
          exact List.ext_getElem HL.out fun j h1 h2 => hsame.out j h1 h2 h1
        rw [he]; rfl
  · have hn : (((xs.length : Int)) != (ys.length : Int)) = true := by rw [bne_iff_ne]; omega
    have HD := hide (show decide (xs = ys) = false by rw [decide_eq_false_iff_not]; intro e; exact hl (by rw [e]))
    clear hl
    go_enter Try.func57, Try.ntmps57
    go_wp2
    go_ret
    exact ⟨by rw [HD.out]; rfl, 0, rfl⟩
set_option maxRecDepth 100000 in
theorem rdGood_any (xs : List Sct) (A : Option Addr) (c : Nat) (w : World) (hR : RowC w A xs) (hb : xs.length ≤ 12) (hw : ∀ x ∈ xs, (Lit.int .i64 x.ix).wf = true) :
    Calls Try.prog 19 #[.slice A xs.length c] w fun e w' => ∃ v, e = .returned v ∧ ∃ zs, NumRes xs 1 zs ∧ IStr w' w.heap.size v zs ∧ Below w.heap.size w w' := by
  have HC := hide (rdNums_any xs A c 1 w hR hb hw)
  clear hR
  go_enter Try.func19, Try.ntmps19
  go_wp2_with fail
  refine HC.out.mono ?_
  rintro e w1 ⟨v, zs, rfl, h1, h2, h3⟩
  go_wp2
  go_ret
  exact ⟨v, rfl, zs, h1, h2, h3⟩
set_option maxRecDepth 100000 in
theorem rdLost_any (xs : List Sct) (A : Option Addr) (c : Nat) (w : World) (hR : RowC w A xs) (hb : xs.length ≤ 12) (hw : ∀ x ∈ xs, (Lit.int .i64 x.ix).wf = true) :
    Calls Try.prog 21 #[.slice A xs.length c] w fun e w' => ∃ v, e = .returned v ∧ ∃ zs, NumRes xs 3 zs ∧ IStr w' w.heap.size v zs ∧ Below w.heap.size w w' := by
  have HC := hide (rdNums_any xs A c 3 w hR hb hw)
  clear hR
  go_enter Try.func21, Try.ntmps21
  go_wp2_with fail
  refine HC.out.mono ?_
  rintro e w1 ⟨v, zs, rfl, h1, h2, h3⟩
  go_wp2
  go_ret
  exact ⟨v, rfl, zs, h1, h2, h3⟩
set_option maxRecDepth 100000 in
theorem refGood_any (xs : List Sct) (A : Option Addr) (c : Nat) (w : World) (hR : RowC w A xs) (hb : xs.length ≤ 12) :
    Calls Try.prog 20 #[.slice A xs.length c] w fun e w' => ∃ v, e = .returned v ∧ ∃ zs, NumRes xs 1 zs ∧ IStr w' w.heap.size v zs ∧ Below w.heap.size w w' := by
  have HC := hide (refNums_any xs A c 1 w hR hb)
  clear hR
  go_enter Try.func20, Try.ntmps20
  go_wp2_with fail
  refine HC.out.mono ?_
  rintro e w1 ⟨v, rfl, zs, h1, h2, h3⟩
  go_wp2
  go_ret
  exact ⟨v, rfl, zs, h1, h2, h3⟩
set_option maxRecDepth 100000 in
theorem refLost_any (xs : List Sct) (A : Option Addr) (c : Nat) (w : World) (hR : RowC w A xs) (hb : xs.length ≤ 12) :
    Calls Try.prog 22 #[.slice A xs.length c] w fun e w' => ∃ v, e = .returned v ∧ ∃ zs, NumRes xs 3 zs ∧ IStr w' w.heap.size v zs ∧ Below w.heap.size w w' := by
  have HC := hide (refNums_any xs A c 3 w hR hb)
  clear hR
  go_enter Try.func22, Try.ntmps22
  go_wp2_with fail
  refine HC.out.mono ?_
  rintro e w1 ⟨v, rfl, zs, h1, h2, h3⟩
  go_wp2
  go_ret
  exact ⟨v, rfl, zs, h1, h2, h3⟩
end Go.Proofs.Ytmajalpmbppkpaa
