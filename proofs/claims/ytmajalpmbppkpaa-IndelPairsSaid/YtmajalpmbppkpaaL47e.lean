/- The walk of the law IndelPairs. -/
import Derived.Test.YtmajalpmbppkpaaL47a
import Derived.Test.YtmajalpmbppkpaaRCmn
import Derived.Test.YtmajalpmbppkpaaScP
set_option linter.unusedVariables false
namespace Go.Proofs.Ytmajalpmbppkpaa
open Go.RowKit
def longB (s : ByteArray) : Bool := (decide (12 < s.size) && decide (s.size ≤ 256)) || decide (264 < s.size)
theorem rlong_any (s : ByteArray) (w : World) :
    Calls Try.prog 29 #[.string s, .int .i64 12] w fun e w' => e = .returned (.bool (longB s)) ∧ w = w' := by
  have hB : ∀ x y z : Bool, decide ((12 : Int) < (s.size : Int)) = x → decide ((s.size : Int) ≤ 256) = y → decide ((264 : Int) < (s.size : Int)) = z → longB s = ((x && y) || z) := by
    intro x y z h1 h2 h3
    subst h1 h2 h3
    unfold longB
    rw [show decide (12 < s.size) = decide ((12 : Int) < (s.size : Int)) from decide_eq_decide.2 (by omega), show decide (s.size ≤ 256) = decide ((s.size : Int) ≤ 256) from decide_eq_decide.2 (by omega), show decide (264 < s.size) = decide ((264 : Int) < (s.size : Int)) from decide_eq_decide.2 (by omega)]
  cases d1 : decide ((12 : Int) < (s.size : Int)) <;> cases d2 : decide ((s.size : Int) ≤ 256) <;> cases d3 : decide ((264 : Int) < (s.size : Int)) <;> (
    have HB := hide (hB _ _ _ d1 d2 d3)
    clear hB
    go_enter Try.func29, Try.ntmps29
    go_wp2
    go_ret
    exact ⟨by rw [HB.out]; rfl, rfl⟩)
set_option maxRecDepth 100000 in
set_option maxHeartbeats 3000000 in
theorem lPairs_any (u v : ByteArray) (n : Int) (wu : u.size ≤ maxLen) (wv : v.size ≤ maxLen) (wn : (Lit.int .i64 n).wf = true) (w : World) :
    Calls Try.prog 7 #[.string u, .string v, .int .i64 n] w fun e w' => e = .returned (.bool true) ∧ Below w.heap.size w w' := by
  cases hu : longB u with
  | true =>
    have C1 := fun W => rlong_any u W
    rw [hu] at C1
    have H1 := hide C1
    clear C1 hu
    go_enter Try.func7, Try.ntmps7
    go_wp2_with fail
    refine (H1.out _).mono ?_
    rintro e w1 ⟨rfl, rfl⟩
    go_wp2_with (go_at_call 24; refine (awake47_any _).mono ?_; rintro e w7 ⟨rfl, hB7⟩)
    go_ret
    exact ⟨rfl, hB7⟩
  | false =>
    have C1 := fun W => rlong_any u W
    rw [hu] at C1
    have H1 := hide C1
    cases hv : longB v with
    | true =>
      have C2 := fun W => rlong_any v W
      rw [hv] at C2
      have H2 := hide C2
      clear C1 C2 hu hv
      go_enter Try.func7, Try.ntmps7
      go_wp2_with fail
      refine (H1.out _).mono ?_
      rintro e w1 ⟨rfl, rfl⟩
      go_wp2_with fail
      refine (H2.out _).mono ?_
      rintro e w1 ⟨rfl, rfl⟩
      go_wp2_with (go_at_call 24; refine (awake47_any _).mono ?_; rintro e w7 ⟨rfl, hB7⟩)
      go_ret
      exact ⟨rfl, hB7⟩
    | false =>
      have C2 := fun W => rlong_any v W
      rw [hv] at C2
      have H2 := hide C2
      have D1 := hide (fun W => dist_any u v W)
      have D2 := hide (fun W => rdist_any u v W)
      have D3 := hide (fun W => common_any u v W)
      have D4 := hide (fun W => rcommon_any u v W)
      have D5 := hide (fun W => iconf_any u v n W)
      have D6 := hide (fun W => rconf_any u v n W)
      have D7 := hide (fun W => script_any u v W)
      have D8 := hide (fun W => rscript_any u v W)
      have hlen : (scriptV u v).1.length ≤ 4294967296 := by
        unfold scriptV
        split
        · rename_i hc
          have hs := ckl_sizes hc
          have h1 := hs u (by simp)
          have h2 := hs v (by simp)
          rw [evs_len _ _ _ _ (by simp)]
          have := dist_lcs u.data.toList v.data.toList
          simp at this
          omega
        · simp
      obtain ⟨p1, hp1⟩ : ∃ p, p = distV u v := ⟨_, rfl⟩
      obtain ⟨p2, hp2⟩ : ∃ p, p = commonV u v := ⟨_, rfl⟩
      obtain ⟨p3, hp3⟩ : ∃ p, p = confV u v n := ⟨_, rfl⟩
      obtain ⟨p4, hp4⟩ : ∃ p, p = scriptV u v := ⟨_, rfl⟩
      rw [← hp1] at D1 D2
      rw [← hp2] at D3 D4
      rw [← hp3] at D5 D6
      rw [← hp4] at D7 D8 hlen
      obtain ⟨a1, a2⟩ := p1
      obtain ⟨b1, b2⟩ := p2
      obtain ⟨c1, c2⟩ := p3
      obtain ⟨d1, d2⟩ := p4
      simp only [] at D1 D2 D3 D4 D5 D6 D7 D8 hlen
      clear C1 C2 hu hv hp1 hp2 hp3 hp4
      have hbs : (b1.toList == b1.toList) = true := by simp
      go_enter Try.func7, Try.ntmps7
      go_wp2_with fail
      refine (H1.out _).mono ?_
      rintro e w1 ⟨rfl, rfl⟩
      go_wp2_with fail
      refine (H2.out _).mono ?_
      rintro e w1 ⟨rfl, rfl⟩
      go_wp2_with fail
      refine (D1.out _).mono ?_
      rintro e w1 ⟨rfl, hB1⟩
      go_wp2_with fail
      refine (D2.out _).mono ?_
      rintro e w2 ⟨rfl, hB2⟩
      go_wp2_with fail
      refine (D3.out _).mono ?_
      rintro e w3 ⟨rfl, hB3⟩
      go_wp2_with fail
      refine (D4.out _).mono ?_
      rintro e w4 ⟨rfl, hB4⟩
      go_wp2_with fail
      refine (D5.out _).mono ?_
      rintro e w5 ⟨rfl, hB5⟩
      go_wp2_with fail
      refine (D6.out _).mono ?_
      rintro e w6 ⟨rfl, hB6⟩
      go_wp2_with fail
      refine (D7.out _).mono ?_
      rintro e w7 ⟨v7, rfl, hrow7, hB7⟩
      go_wp2_with fail
      refine (D8.out _).mono ?_
      rintro e w8 ⟨v8, rfl, hrow8, hB8⟩
      have hBa := below2 (below2 (below2 (below2 (below2 (below2 (below2 hB1 hB2) hB3) hB4) hB5) hB6) hB7) hB8
      have hr7 := RdE.below hrow7.rd hB8 (Nat.le_refl _)
      have hr8 := hrow8.rd
      have HEQ := hide (evEqual_any d1 d1 v7 v8 w8 hr7 hr8 hlen hlen)
      clear hrow7 hrow8 hr7 hr8 hB1 hB2 hB3 hB4 hB5 hB6 hB7 hB8 D1 D2 D3 D4 D5 D6 D7 D8 H1 H2
      go_wp2_with fail
      refine HEQ.out.mono ?_
      rintro e w9 ⟨⟨bb, rfl, hbb⟩, q, rfl⟩
      obtain rfl : bb = true := hbb.2 trivial
      have hBb := belowN hBa q
      clear hbb HEQ hBa
      go_wp2_with (go_at_call 24; refine (awake47_any _).mono ?_; rintro e w10 ⟨rfl, hB10⟩)
      go_ret
      exact ⟨rfl, below2 hBb hB10⟩
end Go.Proofs.Ytmajalpmbppkpaa
