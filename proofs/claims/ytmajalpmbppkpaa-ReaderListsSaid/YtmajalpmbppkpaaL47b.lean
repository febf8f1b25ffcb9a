/- The walk of the law IndelCommon. -/
import Derived.Test.YtmajalpmbppkpaaL47a
import Derived.Test.YtmajalpmbppkpaaSub
import Derived.Laws.Cover1
import Derived.Sort.Walk0
set_option linter.unusedVariables false
namespace Go.Proofs.Ytmajalpmbppkpaa
open Go.RowKit Go.Sort
theorem commonV_of {u v : ByteArray} (hu : u.size ≤ 256 ∧ chk 16 u.data.toList = 0) (hv : v.size ≤ 256 ∧ chk 16 v.data.toList = 0) : commonV u v = (⟨(com (u.size + 1) u.data.toList v.data.toList).toArray⟩, 0) := by
  unfold commonV
  rw [if_pos (ckl_of fun s hs => by
    simp only [List.mem_cons, List.not_mem_nil, or_false] at hs
    rcases hs with rfl | rfl
    · exact hu
    · exact hv)]
theorem chk_lets {s : List UInt8} (h : chk 16 s = 0) : ∀ c ∈ s, c ∈ lets := fun c hc => okc_mem (chk_all h c hc)
set_option maxRecDepth 100000 in
set_option maxHeartbeats 3000000 in
theorem lCommon_any (u v s : ByteArray) (wu : u.size ≤ maxLen) (wv : v.size ≤ maxLen) (ws : s.size ≤ maxLen) (w : World) :
    Calls Try.prog 5 #[.string u, .string v, .string s] w fun e w' => e = .returned (.bool true) ∧ Below w.heap.size w w' := by
  have hrow : ∀ k (hk : k < [u, v, s].length), (w.alloc (Obj.cells #[Value.string u, Value.string v, Value.string s] 9)).cell? ⟨w.heap.size, k, none⟩ = some (.string [u, v, s][k]) := fun k hk => Strs.cell (Strs.lit w [u, v, s] (Nat.le_refl _) (by simp) _ rfl) hk
  have HF := fine_any [u, v, s] 12 w.heap.size 3 _ hrow (by simp)
  rw [show ((12 : Nat) : Int) = 12 from rfl] at HF
  have HB0 := (Below.refl w.heap.size w).alloc (Nat.le_refl _) (Obj.cells #[Value.string u, Value.string v, Value.string s] 9)
  have hz0 : (w.alloc (Obj.cells #[Value.string u, Value.string v, Value.string s] 9)).heap.size = w.heap.size + 1 := by simp
  rw [hz0] at HF
  clear hrow hz0
  cases hfine : [u, v, s].all (fin 12) with
  | false =>
    rw [hfine] at HF
    have HFF := hide HF
    have HBB := hide HB0
    clear HF HB0 hfine
    go_enter Try.func5, Try.ntmps5
    go_wp2_with fail
    refine HFF.out.mono ?_
    rintro e w1 ⟨rfl, hB1⟩
    go_wp2_with fail
    refine (awake47_any _).mono ?_
    rintro e w2 ⟨rfl, hB2⟩
    go_wp2
    go_ret
    exact ⟨rfl, (HBB.out.trans (hB1.mono (by omega))).trans (hB2.mono (by have := HBB.out.size; have := hB1.size; omega))⟩
  | true =>
    rw [hfine] at HF
    have hall := fin_all hfine
    obtain ⟨hu12, hu0⟩ := hall u (by simp)
    obtain ⟨hv12, hv0⟩ := hall v (by simp)
    obtain ⟨hs12, hs0⟩ := hall s (by simp)
    have HFF := hide HF
    have HBB := hide HB0
    clear HF HB0 hfine hall
    have C1 := fun W => common_any u v W
    have C2 := fun W => dist_any u v W
    rw [commonV_of ⟨by omega, hu0⟩ ⟨by omega, hv0⟩] at C1
    rw [distV_of ⟨by omega, hu0⟩ ⟨by omega, hv0⟩] at C2
    obtain ⟨c, hc⟩ : ∃ c : ByteArray, c = ⟨(com (u.size + 1) u.data.toList v.data.toList).toArray⟩ := ⟨_, rfl⟩
    rw [← hc] at C1
    have hcl : c.data.toList = com (u.size + 1) u.data.toList v.data.toList := by rw [hc]
    obtain ⟨h1, h2, h3⟩ := com_len (u.size + 1) u.data.toList v.data.toList (chk_lets hu0) (by simp)
    have hleast := com_least (u.size + 1) u.data.toList v.data.toList s.data.toList (chk_lets hu0) (by simp)
    rw [← hcl] at h1 h2 h3 hleast
    have hmx := lcs_max u.data.toList v.data.toList s.data.toList
    have hev : dst u v + 2 * lcs u.data.toList v.data.toList = u.size + v.size := by
      have := dist_lcs u.data.toList v.data.toList
      simpa [dst] using this
    have hcs : c.size = lcs u.data.toList v.data.toList := by simpa using h1
    have hc12 : c.size ≤ 12 := by
      have := h2.length_le
      simp at this
      omega
    obtain ⟨D, hD⟩ : ∃ D, D = dst u v := ⟨_, rfl⟩
    rw [← hD] at C2 hev
    have H1 := hide C1
    have H2 := hide C2
    have S1 := hide (fun W => sub_any c u (by unfold maxLen; omega) wu W)
    have S2 := hide (fun W => sub_any c v (by unfold maxLen; omega) wv W)
    have S3 := hide (fun W => sub_any s u ws wu W)
    have S4 := hide (fun W => sub_any s v ws wv W)
    have K2 := hide h2
    have K3 := hide h3
    have hde : ((D : Int) != (u.size : Int) + (v.size : Int) - 2 * (c.size : Int)) = false := by
      rw [bne_eq_false_iff_eq]; omega
    have KL := hide (show s.data.toList.Sublist u.data.toList → s.data.toList.Sublist v.data.toList → s.size ≤ c.size ∧ (s.size = c.size → c.data.toList ≤ s.data.toList) by
      intro a b
      have ha := hmx a b
      simp at ha
      refine ⟨by omega, fun e => hleast a b ?_⟩
      simp
      omega)
    clear C1 C2 hc hcl h1 h2 h3 hleast hmx hev hcs hD hu0 hv0 hs0 wu wv ws
    go_enter Try.func5, Try.ntmps5
    go_wp2_with fail
    refine HFF.out.mono ?_
    rintro e w1 ⟨rfl, hB1⟩
    have hBa := HBB.out.trans (hB1.mono (by omega))
    clear HFF HBB hB1
    go_wp2_with fail
    refine (H1.out _).mono ?_
    rintro e w2 ⟨rfl, hB2⟩
    go_wp2_with fail
    refine (H2.out _).mono ?_
    rintro e w3 ⟨rfl, hB3⟩
    have hBb := below2 (below2 hBa hB2) hB3
    clear hBa hB2 hB3 H1 H2
    go_wp2_with fail
    refine (S1.out _).mono ?_
    rintro e w4 ⟨⟨b1, rfl, hb1⟩, q1, rfl⟩
    obtain rfl : b1 = true := hb1.2 K2.out
    go_wp2_with fail
    refine (S2.out _).mono ?_
    rintro e w5 ⟨⟨b2, rfl, hb2⟩, q2, rfl⟩
    obtain rfl : b2 = true := hb2.2 K3.out
    have hBc := belowN (belowN hBb q1) q2
    generalize (w3.drewN q1).drewN q2 = w5 at hBc ⊢
    clear hb1 hb2 S1 S2 K2 K3 hBb
    go_wp2_with fail
    refine (S3.out _).mono ?_
    rintro e w6 ⟨⟨b1, rfl, hb1⟩, q1, rfl⟩
    have hBd := belowN hBc q1
    generalize w5.drewN q1 = w6 at hBd ⊢
    clear hBc S3
    cases b1 with
    | false =>
      clear hb1 KL S4
      go_wp2_with (go_at_call 24; refine (awake47_any _).mono ?_; rintro e w7 ⟨rfl, hB7⟩)
      go_ret
      exact ⟨rfl, below2 hBd hB7⟩
    | true =>
      go_wp2_with fail
      refine (S4.out _).mono ?_
      rintro e w7 ⟨⟨b2, rfl, hb2⟩, q2, rfl⟩
      have hBe := belowN hBd q2
      generalize w6.drewN q2 = w7 at hBe ⊢
      clear hBd S4
      cases b2 with
      | false =>
        clear hb1 hb2 KL
        go_wp2_with (go_at_call 24; refine (awake47_any _).mono ?_; rintro e w8 ⟨rfl, hB8⟩)
        go_ret
        exact ⟨rfl, below2 hBe hB8⟩
      | true =>
        obtain ⟨k1, k2⟩ := KL.out (hb1.1 trivial) (hb2.1 rfl)
        clear KL hb1 hb2
        by_cases hlt : s.size < c.size
        · clear k1 k2
          have hd1 : decide (s.size < c.size) = true := decide_eq_true hlt
          go_wp2_with (go_at_call 24; refine (awake47_any _).mono ?_; rintro e w8 ⟨rfl, hB8⟩)
          go_ret
          exact ⟨rfl, below2 hBe hB8⟩
        · have heq : s.size = c.size := by omega
          have hle := k2 heq
          have hd1 : decide (s.size < c.size) = false := decide_eq_false hlt
          have he1 : ((s.size : Int) == (c.size : Int)) = true := by rw [beq_iff_eq]; omega
          rw [← ByteArray.toList_eq, ← ByteArray.toList_eq] at hle
          clear k1 k2 hlt heq
          have hbl : Op.bytesLess s.toList c.toList = false := by
            rw [bytesLess_eq, decide_eq_false_iff_not]
            exact hle
          clear hle
          go_wp2_with (go_at_call 24; refine (awake47_any _).mono ?_; rintro e w8 ⟨rfl, hB8⟩)
          go_ret
          exact ⟨rfl, below2 hBe hB8⟩
end Go.Proofs.Ytmajalpmbppkpaa
