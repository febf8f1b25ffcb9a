/- The walk of the law TenengoltsWords. -/
import Derived.Test.YtijeogengbphdaaRunR
import Derived.Test.YtijeogengbphdaaRAll
import Derived.Test.YtijeogengbphdaaRSiz
import Derived.Test.YtijeogengbphdaaAwake48
import Derived.Test.YtijeogengbphdaaSyn
import Derived.Test.YtijeogengbphdaaEq
set_option linter.unusedVariables false
namespace Go.Proofs.Ytijeogengbphdaa
open Go.RowKit
theorem words_len (n a : Int) : (words n a).1.length ≤ 4096 := by
  unfold words
  split
  · simp
  · split
    · simp
    · rename_i h h2
      refine Nat.le_trans (List.length_filter_le _ _) ?_
      rw [len_allB]
      exact pow_bound (by omega)
theorem RdS.below {w w' : World} {v : Value} {xs : List ByteArray} (h : RdS w v xs) (hB : Below w.heap.size w w') : RdS w' v xs := by
  rcases h with h | ⟨g, c, he, hc⟩
  · exact .inl h
  · refine .inr ⟨g, c, he, fun k hk => ?_⟩
    have h1 := hc k hk
    exact (hB.cell (p := ⟨g, k, none⟩) (World.block_lt_of_cell? w _ h1)).trans h1
set_option maxRecDepth 100000 in
set_option maxHeartbeats 4000000 in
theorem lWords_any (s : ByteArray) (n a : Int) (hs : s.size ≤ maxLen) (hn : (Lit.int .i64 n).wf = true) (ha : (Lit.int .i64 a).wf = true) (w : World) :
    Calls Try.prog 7 #[.string s, .int .i64 n, .int .i64 a] w fun e w' => e = .returned (.bool true) ∧ Below w.heap.size w w' := by
  have HW := hide (fun W => awake48_any W)
  by_cases hg : 70 < (s.size : Int) ∨ (9 < n ∧ n ≤ 12)
  · rcases hg with h | ⟨h1, h2⟩
    · have hd : decide ((70 : Int) < (s.size : Int)) = true := decide_eq_true h
      go_enter Try.func7, Try.ntmps7
      go_wp2_with (go_at_call 11; refine (HW.out _).mono ?_; rintro e w4 ⟨rfl, hB4⟩)
      go_ret
      exact ⟨rfl, hB4⟩
    · have hd1 : decide ((9 : Int) < n) = true := decide_eq_true h1
      have hd2 : decide (n ≤ (12 : Int)) = true := decide_eq_true h2
      by_cases h : 70 < (s.size : Int)
      · have hd : decide ((70 : Int) < (s.size : Int)) = true := decide_eq_true h
        go_enter Try.func7, Try.ntmps7
        go_wp2_with (go_at_call 11; refine (HW.out _).mono ?_; rintro e w4 ⟨rfl, hB4⟩)
        go_ret
        exact ⟨rfl, hB4⟩
      · have hd : decide ((70 : Int) < (s.size : Int)) = false := decide_eq_false h
        go_enter Try.func7, Try.ntmps7
        go_wp2_with (go_at_call 11; refine (HW.out _).mono ?_; rintro e w4 ⟨rfl, hB4⟩)
        go_ret
        exact ⟨rfl, hB4⟩
  · have hd : decide ((70 : Int) < (s.size : Int)) = false := decide_eq_false (fun h => hg (.inl h))
    have hor : decide ((9 : Int) < n) = false ∨ (decide ((9 : Int) < n) = true ∧ decide (n ≤ (12 : Int)) = false) := by
      by_cases h9 : 9 < n
      · exact .inr ⟨decide_eq_true h9, decide_eq_false (fun h => hg (.inr ⟨h9, h⟩))⟩
      · exact .inl (decide_eq_false h9)
    clear hg
    obtain ⟨x0, y0, h0⟩ : ∃ x y, (x, y) = synV s.data.toList := ⟨_, _, rfl⟩
    obtain ⟨x1, y1, h1⟩ : ∃ x y, (x, y) = runV s.data.toList := ⟨_, _, rfl⟩
    obtain ⟨x2, y2, h2⟩ : ∃ x y, (x, y) = words n a := ⟨_, _, rfl⟩
    obtain ⟨x3, h3⟩ : ∃ x, x = mg (sizeN n a) := ⟨_, rfl⟩
    obtain ⟨y3, h4⟩ : ∃ y, y = tck n a := ⟨_, rfl⟩
    have hl := words_len n a
    have zA1 := fun W => tsyn_any s W
    have zA2 := fun W => rsyn_any s W
    have zB1 := fun W => tRuns_any s W
    have zB2 := fun W => rRuns_any s W
    have zC1 := fun W => twords_any n a W
    have zC2 := fun W => rWords_any n a W
    have zD1 := fun W => tSize_any n a W
    have zD2 := fun W => rSize_any n a W
    rw [← h0] at zA1 zA2
    rw [← h1] at zB1 zB2
    rw [← h2] at zC1 zC2 hl
    rw [← h3, ← h4] at zD1 zD2
    have A1 := hide zA1
    have A2 := hide zA2
    have B1 := hide zB1
    have B2 := hide zB2
    have C1 := hide zC1
    have C2 := hide zC2
    have D1 := hide zD1
    have D2 := hide zD2
    have HL := hide hl
    clear h0 h1 h2 h3 h4 hl zA1 zA2 zB1 zB2 zC1 zC2 zD1 zD2
    rcases hor with hd1 | ⟨hd1, hd2⟩ <;> (
      go_enter Try.func7, Try.ntmps7
      go_wp2_with fail
      refine (A1.out _).mono ?_
      rintro e W1 ⟨rfl, q1, rfl⟩
      go_wp2_with fail
      refine (A2.out _).mono ?_
      rintro e W2 ⟨rfl, rfl⟩
      go_wp2_with fail
      refine (B1.out _).mono ?_
      rintro e W3 ⟨rfl, hB3⟩
      go_wp2_with fail
      refine (B2.out _).mono ?_
      rintro e W4 ⟨rfl, hB4⟩
      go_wp2_with fail
      refine (C1.out _).mono ?_
      rintro e W5 ⟨v5, rfl, hv5, hB5⟩
      go_wp2_with fail
      refine (C2.out _).mono ?_
      rintro e W6 ⟨v6, rfl, hv6, hB6⟩
      go_wp2_with fail
      refine (D1.out _).mono ?_
      rintro e W7 ⟨rfl, hB7⟩
      have hA3 : Below w.heap.size w W3 := (belowN (Below.refl w.heap.size w) q1).trans hB3
      have hA4 := hA3.trans (hB4.mono hA3.size)
      have hA5 := hA4.trans (hB5.mono hA4.size)
      have hr5 := hv5.rd.below hB6
      have hA6 := hA5.trans (hB6.mono hA5.size)
      have hr6 := hv6.rd.below hB7
      replace hr5 := hr5.below hB7
      have hA7 := hA6.trans (hB7.mono hA6.size)
      clear hB3 hB4 hB5 hB6 hB7 hA3 hA4 hA5 hA6 hv5 hv6
      have hB8 : Below W7.heap.size W7 (W7.alloc (.cells #[.bool false, .string x3] 39)) := (Below.refl _ W7).alloc (Nat.le_refl _) _
      have hc8 := ResI.new_ W7 false x3
      have hs8 : (W7.alloc (.cells #[.bool false, .string x3] 39)).heap.size = W7.heap.size + 1 := by simp
      replace hr5 := hr5.below hB8
      replace hr6 := hr6.below hB8
      have hA8 := hA7.trans (hB8.mono hA7.size)
      go_wp2_with fail
      generalize W7.alloc (.cells #[.bool false, .string x3] 39) = W8 at hc8 hs8 hr5 hr6 hA8 ⊢
      obtain ⟨cc, hcc⟩ : ∃ cc, W7.heap.size = cc := ⟨_, rfl⟩
      rw [hcc] at hc8 hs8 ⊢
      clear hB8 hA7 hcc
      refine (D2.out _).mono ?_
      rintro e W9 ⟨rfl, hB9⟩
      replace hr5 := hr5.below hB9
      replace hr6 := hr6.below hB9
      have hA9 := hA8.trans (hB9.mono hA8.size)
      have hc9 := hc8.below hB9 (by omega)
      have hs9 := hB9.size
      have hB10 : Below W9.heap.size W9 (W9.alloc (.cells #[.bool false, .string x3] 39)) := (Below.refl _ W9).alloc (Nat.le_refl _) _
      have hd10 := ResI.new_ W9 false x3
      replace hr5 := hr5.below hB10
      replace hr6 := hr6.below hB10
      have hA10 := hA9.trans (hB10.mono hA9.size)
      have hc10 := hc9.below hB10 (by omega)
      clear hA9 hA8 hB9 hc9 hc8 hB10
      go_wp2_with fail
      generalize W9.alloc (.cells #[.bool false, .string x3] 39) = W10 at hd10 hr5 hr6 hA10 hc10 ⊢
      obtain ⟨dd, hdd⟩ : ∃ dd, W9.heap.size = dd := ⟨_, rfl⟩
      rw [hdd] at hd10 ⊢
      clear hs9 hs8 hdd
      have HE := hide (slEqual_any x2 x2 v5 v6 W10 hr5 hr6 (by have := HL.out; omega) (by have := HL.out; omega))
      clear hr5 hr6
      refine HE.out.mono ?_
      rintro e W11 ⟨rfl, q2, rfl⟩
      have htr : decide (x2 = x2) = true := by simp
      rw [htr]
      have g0 : (W10.drewN q2).cell? ⟨cc, 0, none⟩ = some (.bool false) := hc10.c0
      have g1 : (W10.drewN q2).cell? ⟨cc, 1, none⟩ = some (.string x3) := hc10.c1
      have g2 : (W10.drewN q2).cell? ⟨dd, 0, none⟩ = some (.bool false) := hd10.c0
      have g3 : (W10.drewN q2).cell? ⟨dd, 1, none⟩ = some (.string x3) := hd10.c1
      have hA11 : Below w.heap.size w (W10.drewN q2) := belowN hA10 q2
      clear hc10 hd10 HE htr
      generalize W10.drewN q2 = W11 at g0 g1 g2 g3 hA11 ⊢
      go_wp2_with fail
      refine (HW.out _).mono ?_
      rintro e W12 ⟨rfl, hB12⟩
      go_wp2
      go_ret
      exact ⟨rfl, hA11.trans (hB12.mono hA11.size)⟩)
end Go.Proofs.Ytijeogengbphdaa
