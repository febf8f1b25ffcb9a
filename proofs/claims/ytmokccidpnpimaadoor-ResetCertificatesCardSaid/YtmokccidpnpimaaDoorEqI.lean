/- Equality of rows of ints (slices.Equal, Same, SameSets), slices.Index and Contains of ints. -/
import Derived.Test.YtmokccidpnpimaaDoorRowD
import Derived.BigQuiet
set_option linter.unusedVariables false
namespace Go.Proofs.YtmokccidpnpimaaDoor
open Go.RowKit
def hasI (x : Int) (xs : List Int) : Bool := decide (x ∈ xs)
theorem hasI_iff {x : Int} {xs : List Int} : hasI x xs = true ↔ x ∈ xs := by unfold hasI; exact decide_eq_true_iff
theorem hasI_no {x : Int} {xs : List Int} (h : ¬ x ∈ xs) : hasI x xs = false := by rw [← Bool.not_eq_true, hasI_iff]; exact h
set_option maxRecDepth 100000 in
set_option maxHeartbeats 1000000 in
theorem slEqualI_any (xs ys : List Int) (A A' : Option Addr) (c c' : Nat) (w : World) (h1 : RowI w A xs) (h2 : RowI w A' ys) (hb : xs.length ≤ 4294967296) (hb' : ys.length ≤ 4294967296) :
    Calls Tryd.prog 60 #[.slice A xs.length c, .slice A' ys.length c'] w fun e w' => e = .returned (.bool (decide (xs = ys))) ∧ ∃ q, w' = w.drewN q := by
  by_cases hl : xs.length = ys.length
  · have H1 := hide h1
    have H2 := hide h2
    have HL := hide hl
    rw [← hl]
    have hn : (((xs.length : Int)) != (xs.length : Int)) = false := by simp
    clear h1 h2 hl
    go_enter Tryd.func60, Tryd.ntmps60
    go_wp2
    go_loopw [13] (fun i wr => ∃ k q : Nat, k ≤ xs.length ∧ i = .int .i64 k ∧ Hid (∀ j (hj : j < xs.length) (hj2 : j < ys.length), j < k → xs[j] = ys[j]) ∧ wr = w.drewN q) (fun i _ => xs.length - (intOf i).toNat)
    case atStart => exact ⟨0, 0, Nat.zero_le _, rfl, hide fun j _ _ h => absurd h (by omega), rfl⟩
    case round =>
      obtain ⟨k, q, hk, rfl, hsame, rfl⟩ := hrel
      by_cases hlt : k < xs.length
      · have hlt2 : k < ys.length := by have := HL.out; omega
        obtain ⟨b1, o1, rfl, _, hc1⟩ := H1.out (by omega)
        obtain ⟨b2, o2, rfl, _, hc2⟩ := H2.out (by omega)
        have c1 := hc1 k hlt
        have c2 := hc2 k hlt2
        obtain ⟨a, ha⟩ : ∃ a, a = xs[k] := ⟨_, rfl⟩
        obtain ⟨b, hb⟩ : ∃ b, b = ys[k] := ⟨_, rfl⟩
        rw [← ha] at c1
        rw [← hb] at c2
        have HA := hide ha
        have HBB := hide hb
        clear ha hb hc1 hc2
        have hk0 : (0 : Int) ≤ (k : Int) := by omega
        have hk1 : (k : Int) < (xs.length : Int) := by omega
        go_wp2_with fail
        go_quiet (fail)
        by_cases hab : a = b
        · have hbb : (a != b) = false := by simp [hab]
          rw [hbb]
          have HAB := hide hab
          clear hbb hab c1 c2
          go_wp2
          go_roundw
          case rel =>
            refine ⟨k + 1, q + nq, by omega, by go_num, hide fun j hj hj2 hjk => ?_, by simp⟩
            by_cases e : j < k
            · exact hsame.out j hj hj2 e
            · obtain rfl : j = k := by omega
              rw [← HA.out, ← HBB.out]; exact HAB.out
          case measure => simp [intOf]; omega
        · have hbb : (a != b) = true := by simp [hab]
          rw [hbb]
          have HAB := hide hab
          clear hbb hab c1 c2
          go_wp2
          go_ret
          refine ⟨?_, q + nq, by simp⟩
          have hne : decide (xs = ys) = false := by
            rw [decide_eq_false_iff_not]
            intro e
            subst e
            exact HAB.out (by rw [HA.out, HBB.out])
          rw [hne]; rfl
      · obtain rfl : k = xs.length := by omega
        go_wp2
        go_ret
        refine ⟨?_, q, rfl⟩
        have he : decide (xs = ys) = true := by
          rw [decide_eq_true_iff]
          exact List.ext_getElem HL.out fun j h1 h2 => hsame.out j h1 h2 h1
        rw [he]; rfl
  · have hn : (((xs.length : Int)) != (ys.length : Int)) = true := by rw [bne_iff_ne]; omega
    have he := hide (show decide (xs = ys) = false by rw [decide_eq_false_iff_not]; intro e; exact hl (by rw [e]))
    clear h1 h2 hl
    go_enter Tryd.func60, Tryd.ntmps60
    go_wp2
    go_ret
    exact ⟨by rw [he.out]; rfl, 0, rfl⟩
set_option maxRecDepth 100000 in
set_option maxHeartbeats 1000000 in
theorem same12_any (xs ys : List Int) (A A' : Option Addr) (c c' : Nat) (w : World) (h1 : RowI w A xs) (h2 : RowI w A' ys) (hb : xs.length ≤ 4294967296) (hb' : ys.length ≤ 4294967296) :
    Calls Tryd.prog 30 #[.slice A xs.length c, .slice A' ys.length c'] w fun e w' => e = .returned (.bool (decide (xs = ys))) ∧ ∃ q, w' = w.drewN q := by
  by_cases hl : xs.length = ys.length
  · have H1 := hide h1
    have H2 := hide h2
    have HL := hide hl
    rw [← hl]
    have hn : (((xs.length : Int)) != (xs.length : Int)) = false := by simp
    clear h1 h2 hl
    go_enter Tryd.func30, Tryd.ntmps30
    go_wp2
    go_loopw [5] (fun i wr => ∃ k q : Nat, k ≤ xs.length ∧ i = .int .i64 k ∧ Hid (∀ j (hj : j < xs.length) (hj2 : j < ys.length), j < k → xs[j] = ys[j]) ∧ wr = w.drewN q) (fun i _ => xs.length - (intOf i).toNat)
    case atStart => exact ⟨0, 0, Nat.zero_le _, rfl, hide fun j _ _ h => absurd h (by omega), rfl⟩
    case round =>
      obtain ⟨k, q, hk, rfl, hsame, rfl⟩ := hrel
      by_cases hlt : k < xs.length
      · have hlt2 : k < ys.length := by have := HL.out; omega
        obtain ⟨b1, o1, rfl, _, hc1⟩ := H1.out (by omega)
        obtain ⟨b2, o2, rfl, _, hc2⟩ := H2.out (by omega)
        have c1 := hc1 k hlt
        have c2 := hc2 k hlt2
        obtain ⟨a, ha⟩ : ∃ a, a = xs[k] := ⟨_, rfl⟩
        obtain ⟨b, hb⟩ : ∃ b, b = ys[k] := ⟨_, rfl⟩
        rw [← ha] at c1
        rw [← hb] at c2
        have HA := hide ha
        have HBB := hide hb
        clear ha hb hc1 hc2
        have hk0 : (0 : Int) ≤ (k : Int) := by omega
        have hk1 : (k : Int) < (xs.length : Int) := by omega
        go_wp2_with fail
        go_quiet (fail)
        by_cases hab : a = b
        · have hbb : (a != b) = false := by simp [hab]
          rw [hbb]
          have HAB := hide hab
          clear hbb hab c1 c2
          go_wp2
          go_roundw
          case rel =>
            refine ⟨k + 1, q + nq, by omega, by go_num, hide fun j hj hj2 hjk => ?_, by simp⟩
            by_cases e : j < k
            · exact hsame.out j hj hj2 e
            · obtain rfl : j = k := by omega
              rw [← HA.out, ← HBB.out]; exact HAB.out
          case measure => simp [intOf]; omega
        · have hbb : (a != b) = true := by simp [hab]
          rw [hbb]
          have HAB := hide hab
          clear hbb hab c1 c2
          go_wp2
          go_ret
          refine ⟨?_, q + nq, by simp⟩
          have hne : decide (xs = ys) = false := by
            rw [decide_eq_false_iff_not]
            intro e
            subst e
            exact HAB.out (by rw [HA.out, HBB.out])
          rw [hne]; rfl
      · obtain rfl : k = xs.length := by omega
        go_wp2
        go_ret
        refine ⟨?_, q, rfl⟩
        have he : decide (xs = ys) = true := by
          rw [decide_eq_true_iff]
          exact List.ext_getElem HL.out fun j h1 h2 => hsame.out j h1 h2 h1
        rw [he]; rfl
  · have hn : (((xs.length : Int)) != (ys.length : Int)) = true := by rw [bne_iff_ne]; omega
    have he := hide (show decide (xs = ys) = false by rw [decide_eq_false_iff_not]; intro e; exact hl (by rw [e]))
    clear h1 h2 hl
    go_enter Tryd.func30, Tryd.ntmps30
    go_wp2
    go_ret
    exact ⟨by rw [he.out]; rfl, 0, rfl⟩
theorem quiet_more {P : Program} {f : FuncId} {args : Array Value} {w : World} {q n : Nat} {v : Value}
    (h : Calls P f args (w.drewN (q + n)) fun e w' => e = .returned v ∧ ∃ m, w' = (w.drewN (q + n)).drewN m) : Calls P f args (w.drewN (q + n)) fun e w'' => e = .returned v ∧ ∃ m, w'' = w.drewN (q + m) :=
  h.mono fun _ _ ⟨he, m, hm⟩ => ⟨he, n + m, by rw [hm]; simp [Nat.add_assoc]⟩
theorem RowI.drewN {w : World} {A : Option Addr} {zs : List Int} (h : RowI w A zs) (q : Nat) : RowI (w.drewN q) A zs := h
set_option maxRecDepth 100000 in
set_option maxHeartbeats 1000000 in
theorem slIndexI_any (xs : List Int) (x : Int) (A : Option Addr) (c : Nat) (w : World) (hR : RowI w A xs) (hb : xs.length ≤ 4294967296) :
    Calls Tryd.prog 81 #[.slice A xs.length c, .int .i64 x] w fun e w' => (∃ z : Int, e = .returned (.int .i64 z) ∧ decide (0 ≤ z) = hasI x xs) ∧ w' = w := by
  have HR := hide hR
  clear hR
  go_enter Tryd.func81, Tryd.ntmps81
  go_wp2
  go_loop [8] (fun i => ∃ k : Nat, k ≤ xs.length ∧ i = .int .i64 k ∧ Hid (∀ j (hj : j < xs.length), j < k → xs[j] ≠ x)) (fun i => xs.length - (intOf i).toNat)
  case atStart => exact ⟨0, Nat.zero_le _, rfl, hide fun j _ h => absurd h (by omega)⟩
  case round =>
    obtain ⟨k, hk, rfl, hs⟩ := hrel
    by_cases hlt : k < xs.length
    · obtain ⟨b1, o1, rfl, _, hcell⟩ := HR.out (by omega)
      have c1 := hcell k hlt
      obtain ⟨a, ha⟩ : ∃ a, a = xs[k] := ⟨_, rfl⟩
      rw [← ha] at c1
      have HA := hide ha
      clear ha hcell
      have hk0 : (0 : Int) ≤ (k : Int) := by omega
      have hk1 : (k : Int) < (xs.length : Int) := by omega
      by_cases he : x = a
      · have HM := hide (show hasI x xs = true by rw [hasI_iff, he, HA.out]; exact List.getElem_mem _)
        have hself : (x == a) = true := by simp [he]
        clear he
        go_wp2
        go_ret
        exact ⟨⟨k, rfl, by rw [HM.out, decide_eq_true (by omega)]⟩, rfl⟩
      · have hne : (x == a) = false := by simp [he]
        have HE := hide he
        clear he
        go_wp2
        refine ⟨⟨k + 1, by omega, by go_num, hide fun j hj hjk => ?_⟩, by simp [intOf]; omega⟩
        by_cases e : j < k
        · exact hs.out j hj e
        · obtain rfl : j = k := by omega
          rw [← HA.out]; exact fun e2 => HE.out e2.symm
    · obtain rfl : k = xs.length := by omega
      go_wp2
      go_ret
      refine ⟨⟨-1, rfl, ?_⟩, rfl⟩
      have : ¬ x ∈ xs := fun h => by
        obtain ⟨j, hj, e⟩ := List.getElem_of_mem h
        exact hs.out j hj hj e
      rw [hasI_no this]; rfl
set_option maxRecDepth 100000 in
set_option maxHeartbeats 400000 in
theorem slContainsI_any (xs : List Int) (x : Int) (A : Option Addr) (c : Nat) (w : World) (hR : RowI w A xs) (hb : xs.length ≤ 4294967296) :
    Calls Tryd.prog 61 #[.slice A xs.length c, .int .i64 x] w fun e w' => e = .returned (.bool (hasI x xs)) ∧ w' = w := by
  have HI := hide (slIndexI_any xs x A c w hR hb)
  clear hR
  go_enter Tryd.func61, Tryd.ntmps61
  go_wp2_with fail
  refine HI.out.mono ?_
  rintro e w1 ⟨⟨z, rfl, hz⟩, rfl⟩
  have HZ := hide hz
  clear hz
  go_wp2
  go_ret
  exact ⟨by rw [← HZ.out]; rfl, rfl⟩
set_option maxRecDepth 100000 in
set_option maxHeartbeats 1000000 in
theorem sameSets_any (xs ys : List (List Int)) (A A' : Option Addr) (c c' : Nat) (w : World) (h1 : RowD w A xs) (h2 : RowD w A' ys) (hb : xs.length ≤ 4294967296) (hb' : ys.length ≤ 4294967296) (hx : ∀ x ∈ xs, x.length ≤ 4294967296) (hy : ∀ y ∈ ys, y.length ≤ 4294967296) :
    Calls Tryd.prog 17 #[.slice A xs.length c, .slice A' ys.length c'] w fun e w' => e = .returned (.bool (decide (xs = ys))) ∧ ∃ q, w' = w.drewN q := by
  by_cases hl : xs.length = ys.length
  · have H1 := hide h1
    have H2 := hide h2
    have HX := hide hx
    have HY := hide hy
    have HL := hide hl
    rw [← hl]
    have hn : (((xs.length : Int)) != (xs.length : Int)) = false := by simp
    clear h1 h2 hl hx hy
    go_enter Tryd.func17, Tryd.ntmps17
    go_wp2
    go_loopw [5] (fun i wr => ∃ k q : Nat, k ≤ xs.length ∧ i = .int .i64 k ∧ Hid (∀ j (hj : j < xs.length) (hj2 : j < ys.length), j < k → xs[j] = ys[j]) ∧ wr = w.drewN q) (fun i _ => xs.length - (intOf i).toNat)
    case atStart => exact ⟨0, 0, Nat.zero_le _, rfl, hide fun j _ _ h => absurd h (by omega), rfl⟩
    case round =>
      obtain ⟨k, q, hk, rfl, hsame, rfl⟩ := hrel
      by_cases hlt : k < xs.length
      · have hlt2 : k < ys.length := by have := HL.out; omega
        obtain ⟨b1, o1, rfl, _, hc1⟩ := H1.out (by omega)
        obtain ⟨b2, o2, rfl, _, hc2⟩ := H2.out (by omega)
        obtain ⟨D1, d1, c1, r1⟩ := hc1 k hlt
        obtain ⟨D2, d2, c2, r2⟩ := hc2 k hlt2
        have l1 := HX.out _ (List.getElem_mem hlt)
        have l2 := HY.out _ (List.getElem_mem hlt2)
        obtain ⟨a, ha⟩ : ∃ a, a = xs[k] := ⟨_, rfl⟩
        obtain ⟨b, hb⟩ : ∃ b, b = ys[k] := ⟨_, rfl⟩
        rw [← ha] at c1 r1 l1
        rw [← hb] at c2 r2 l2
        have HA := hide ha
        have HBB := hide hb
        have HS := fun m => (same12_any a b D1 D2 d1 d2 (w.drewN (q + m)) r1 r2 l1 l2)
        clear ha hb hc1 hc2 r1 r2 l1 l2
        have hk0 : (0 : Int) ≤ (k : Int) := by omega
        have hk1 : (k : Int) < (xs.length : Int) := by omega
        cases hab : decide (a = b) with
        | true =>
          rw [hab] at HS
          have HSM := hide HS
          have HAB := hide (of_decide_eq_true hab)
          clear HS hab
          go_wp2_with fail
          go_quiet ((go_at_call 30; exact quiet_more (HSM.out _)))
          clear c1 c2
          go_wp2
          go_roundw
          case rel =>
            refine ⟨k + 1, q + nq, by omega, by go_num, hide fun j hj hj2 hjk => ?_, by simp⟩
            by_cases e : j < k
            · exact hsame.out j hj hj2 e
            · obtain rfl : j = k := by omega
              rw [← HA.out, ← HBB.out]; exact HAB.out
          case measure => simp [intOf]; omega
        | false =>
          rw [hab] at HS
          have HSM := hide HS
          have HAB := hide (of_decide_eq_false hab)
          clear HS hab
          go_wp2_with fail
          go_quiet ((go_at_call 30; exact quiet_more (HSM.out _)))
          clear c1 c2
          go_wp2
          go_ret
          refine ⟨?_, q + nq, by simp⟩
          have hne : decide (xs = ys) = false := by
            rw [decide_eq_false_iff_not]
            intro e
            subst e
            exact HAB.out (by rw [HA.out, HBB.out])
          rw [hne]; rfl
      · obtain rfl : k = xs.length := by omega
        go_wp2
        go_ret
        refine ⟨?_, q, rfl⟩
        have he : decide (xs = ys) = true := by
          rw [decide_eq_true_iff]
          exact List.ext_getElem HL.out fun j h1 h2 => hsame.out j h1 h2 h1
        rw [he]; rfl
  · have hn : (((xs.length : Int)) != (ys.length : Int)) = true := by rw [bne_iff_ne]; omega
    have he := hide (show decide (xs = ys) = false by rw [decide_eq_false_iff_not]; intro e; exact hl (by rw [e]))
    clear h1 h2 hl hx hy
    go_enter Tryd.func17, Tryd.ntmps17
    go_wp2
    go_ret
    exact ⟨by rw [he.out]; rfl, 0, rfl⟩
end Go.Proofs.YtmokccidpnpimaaDoor
