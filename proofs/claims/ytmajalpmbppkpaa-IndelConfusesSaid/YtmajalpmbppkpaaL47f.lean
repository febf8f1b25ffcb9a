/- The walk of the law IndelConfuses. -/
import Derived.Test.YtmajalpmbppkpaaConP
set_option linter.unusedVariables false
namespace Go.Proofs.Ytmajalpmbppkpaa
open Go.RowKit
set_option maxRecDepth 100000 in
set_option maxHeartbeats 4000000 in
theorem lConf_any (u v s : ByteArray) (n : Int) (wu : u.size ≤ maxLen) (wv : v.size ≤ maxLen) (ws : s.size ≤ maxLen) (wn : (Lit.int .u8 n).wf = true) (w : World) :
    Calls Try.prog 11 #[.string u, .string v, .string s, .int .u8 n] w fun e w' => e = .returned (.bool true) ∧ Below w.heap.size w w' := by
  have hrow : ∀ k (hk : k < [u, v, s].length), (w.alloc (Obj.cells #[Value.string u, Value.string v, Value.string s] 9)).cell? ⟨w.heap.size, k, none⟩ = some (.string [u, v, s][k]) := fun k hk => Strs.cell (Strs.lit w [u, v, s] (Nat.le_refl _) (by simp) _ rfl) hk
  have HF := fine_any [u, v, s] 8 w.heap.size 3 _ hrow (by simp)
  rw [show ((8 : Nat) : Int) = 8 from rfl] at HF
  have HB0 := (Below.refl w.heap.size w).alloc (Nat.le_refl _) (Obj.cells #[Value.string u, Value.string v, Value.string s] 9)
  have hz0 : (w.alloc (Obj.cells #[Value.string u, Value.string v, Value.string s] 9)).heap.size = w.heap.size + 1 := by simp
  rw [hz0] at HF
  clear hrow hz0
  cases hfine : [u, v, s].all (fin 8) with
  | false =>
    rw [hfine] at HF
    have HFF := hide HF
    have HBB := hide HB0
    clear HF HB0 hfine
    go_enter Try.func11, Try.ntmps11
    go_wp2_with fail
    refine HFF.out.mono ?_
    rintro e w1 ⟨rfl, hB1⟩
    go_wp2_with fail
    refine (awake47_any _).mono ?_
    rintro e w2 ⟨rfl, hB2⟩
    go_wp2
    go_ret
    exact ⟨rfl, (HBB.out.trans (hB1.mono (by omega))).trans (hB2.mono (by have := HBB.out.size; have := hB1.size; omega))⟩
  | true =>
    rw [hfine] at HF
    have hall := fin_all hfine
    obtain ⟨hu8, hu0⟩ := hall u (by simp)
    obtain ⟨hv8, hv0⟩ := hall v (by simp)
    obtain ⟨hs8, hs0⟩ := hall s (by simp)
    have HFF := hide HF
    have HBB := hide HB0
    clear HF HB0 hfine hall
    by_cases huv' : ¬ u.size = v.size
    · have hb1 : ((u.size : Int) != (v.size : Int)) = true := by rw [bne_iff_ne]; omega
      clear huv'
      go_enter Try.func11, Try.ntmps11
      go_wp2_with fail
      refine HFF.out.mono ?_
      rintro e w1 ⟨rfl, hB1⟩
      go_wp2_with fail
      refine (awake47_any _).mono ?_
      rintro e w2 ⟨rfl, hB2⟩
      go_wp2
      go_ret
      exact ⟨rfl, (HBB.out.trans (hB1.mono (by omega))).trans (hB2.mono (by have := HBB.out.size; have := hB1.size; omega))⟩
    have hb1 : ((u.size : Int) != (v.size : Int)) = false := by rw [bne_eq_false_iff_eq]; omega
    have huv : u.size = v.size := Decidable.not_not.1 huv'
    clear huv'
    by_cases hvs' : ¬ v.size = s.size
    · have hb2 : ((v.size : Int) != (s.size : Int)) = true := by rw [bne_iff_ne]; omega
      clear hvs' huv
      go_enter Try.func11, Try.ntmps11
      go_wp2_with fail
      refine HFF.out.mono ?_
      rintro e w1 ⟨rfl, hB1⟩
      go_wp2_with fail
      refine (awake47_any _).mono ?_
      rintro e w2 ⟨rfl, hB2⟩
      go_wp2
      go_ret
      exact ⟨rfl, (HBB.out.trans (hB1.mono (by omega))).trans (hB2.mono (by have := HBB.out.size; have := hB1.size; omega))⟩
    have hvs : v.size = s.size := Decidable.not_not.1 hvs'
    clear hvs'
    have hb2 : ((v.size : Int) != (s.size : Int)) = false := by rw [bne_eq_false_iff_eq]; omega
    have hat : 0 ≤ n ∧ n ≤ 255 := bounds_u8 wn
    obtain ⟨a1, rfl⟩ := Int.eq_ofNat_of_zero_le hat.1
    have ha1 : a1 ≤ 255 := by omega
    obtain ⟨k, hk, hk2⟩ : ∃ k : Nat, (a1 : Int) % ((u.size : Int) + 1) = (k : Int) ∧ k ≤ u.size := ⟨a1 % (u.size + 1), by rw [Int.natCast_emod]; rfl, by have := Nat.mod_lt a1 (show 0 < u.size + 1 by omega); omega⟩
    have C1 := fun W => iconf_any u v k W
    have C2 := fun W => dist_any u v W
    have C3 := fun W => ball_any u k (by omega) (.inl (by omega)) W
    have C4 := fun W => ball_any v k (by omega) (.inl (by omega)) W
    have C5 := fun W => iconf_any u s k W
    have C6 := fun W => iconf_any v s k W
    rw [confV_of ⟨by omega, hu0⟩ ⟨by omega, hv0⟩ huv (by omega) (by omega)] at C1
    rw [distV_of ⟨by omega, hu0⟩ ⟨by omega, hv0⟩] at C2
    rw [bErr_of ⟨by omega, hu0⟩ (by omega) (by omega)] at C3
    rw [bErr_of ⟨by omega, hv0⟩ (by omega) (by omega)] at C4
    rw [confV_of ⟨by omega, hu0⟩ ⟨by omega, hs0⟩ (by omega) (by omega) (by omega)] at C5
    rw [confV_of ⟨by omega, hv0⟩ ⟨by omega, hs0⟩ (by omega) (by omega) (by omega)] at C6
    have hsv := sepV3 (n := (k : Int)) ⟨by omega, hu0⟩ ⟨by omega, hv0⟩ ⟨by omega, hs0⟩ huv hvs (by omega) (by omega)
    have hs3 := sep3 u v s k
    have KB := hide (fun ra rb => @conf_balls u v k huv hk2 ra rb)
    obtain ⟨b2, hb2e⟩ : ∃ b, b = decide ((dst u s : Int) ≤ 2 * (k : Int)) := ⟨_, rfl⟩
    obtain ⟨b3, hb3e⟩ : ∃ b, b = decide ((dst v s : Int) ≤ 2 * (k : Int)) := ⟨_, rfl⟩
    obtain ⟨S, hS⟩ : ∃ S, S = sepB [u, v, s] k := ⟨_, rfl⟩
    rw [← hb2e] at C5 hs3
    rw [← hb3e] at C6 hs3
    rw [← hS] at hsv hs3
    obtain ⟨D, hD⟩ : ∃ D, D = dst u v := ⟨_, rfl⟩
    rw [← hD] at C2 C1 hs3 KB
    have hDb : D ≤ 16 := by
      have := dist_lcs u.data.toList v.data.toList
      have h1 : dst u v = dist u.data.toList v.data.toList := rfl
      simp at this
      omega
    obtain ⟨b1, hb1e⟩ : ∃ b, decide ((D : Int) ≤ 2 * (k : Int)) = b := ⟨_, rfl⟩
    rw [hb1e] at C1 hs3 KB
    have H1 := hide C1
    have H2 := hide C2
    have H3 := hide C3
    have H4 := hide C4
    have H5 := hide C5
    have H6 := hide C6
    have HSV := hide hsv
    have HS3 := hide hs3
    have hmax4 : ∀ W, (Builtin.max_ #[29, 29, 29, 29] 29 #[.int .i64 0, .int .i64 0, .int .i64 0, .int .i64 0]).run Try.prog W = .ok (.int .i64 0) W := fun _ => by kernel_rfl
    have hmax3 : ∀ W, (Builtin.max_ #[29, 29, 29] 29 #[.int .i64 0, .int .i64 0, .int .i64 0]).run Try.prog W = .ok (.int .i64 0) W := fun _ => by kernel_rfl
    clear C1 C2 C3 C4 C5 C6 hu0 hv0 hs0 wu wv ws wn hat hsv hs3 hb2e hb3e hS hD huv hvs
    go_enter Try.func11, Try.ntmps11
    go_wp2_with fail
    refine HFF.out.mono ?_
    rintro e w1 ⟨rfl, hB1⟩
    have hBa := HBB.out.trans (hB1.mono (by omega))
    clear HFF HBB hB1
    go_wp2_with fail
    rw [hk]
    refine (H1.out _).mono ?_
    rintro e w2 ⟨rfl, hB2⟩
    go_wp2_with fail
    refine (H2.out _).mono ?_
    rintro e w3 ⟨rfl, hB3⟩
    have hBb := below2 (below2 hBa hB2) hB3
    clear hBa hB2 hB3 H1 H2
    go_wp2_with fail
    refine (H3.out _).mono ?_
    rintro e w4 ⟨v4, rfl, ⟨ra, hra, hra1, _⟩, hB4⟩
    obtain ⟨A4, c4, rfl, hat4⟩ := strs_row hra
    have hba := hide (hra1 trivial)
    clear hra hra1
    go_wp2_with fail
    refine (H4.out _).mono ?_
    rintro e w5 ⟨v5, rfl, ⟨rb, hrb, hrb1, _⟩, hB5⟩
    obtain ⟨A5, c5, rfl, hat5⟩ := strs_row hrb
    have hbb := hide (hrb1 trivial)
    have hat4' := hat4.below hB5
    have hBc := below2 (below2 hBb hB4) hB5
    clear hrb hrb1 hBb hB4 hB5 hat4 H3 H4
    have hany := KB.out ra rb hba.out hbb.out
    have hlen : ∀ {x : ByteArray} {l : List ByteArray}, x.size ≤ 8 → l.length ≤ 2 ^ x.size → l.length ≤ 4294967296 := fun hx h => by
      have h2 := Nat.pow_le_pow_right (show 0 < 2 by omega) hx
      omega
    have hBn : Below w5.heap.size w5 (w5.alloc (Obj.cells #[Value.slice A5 rb.length c5] 54)) := (Below.refl _ w5).alloc (Nat.le_refl _) _
    have HCF := hide (contcf_any ra rb A4 A5 c4 c5 w5.heap.size (w5.alloc (Obj.cells #[Value.slice A5 rb.length c5] 54)) (cell_of_one (heap_alloc_new w5 _)) (hat5.below hBn) (hat4'.below hBn) (hlen hu8 (ball_len hba.out)) (hlen hv8 (ball_len hbb.out)))
    have hBd := below2 hBc hBn
    clear hBc hBn hlen hat5 hat4' hba hbb KB
    go_wp2_with fail
    refine HCF.out.mono ?_
    rintro e w6 ⟨rfl, q, rfl⟩
    rw [hany]
    have hBe := belowN hBd q
    generalize (w5.alloc (Obj.cells #[Value.slice A5 rb.length c5] 54)).drewN q = w6 at hBe ⊢
    clear hBd HCF hany
    go_wp2_with fail
    refine (H5.out _).mono ?_
    rintro e w7 ⟨rfl, hB7⟩
    go_wp2_with fail
    refine (H6.out _).mono ?_
    rintro e w8 ⟨rfl, hB8⟩
    have hBf := below2 (below2 hBe hB7) hB8
    clear hBe hB7 hB8 H5 H6
    have HQ := isep_any [u, v, s] (some ⟨w8.heap.size, 0, none⟩) 3 k _ (RowS.lit w8 [u, v, s] (by simp) _ rfl) (by simp) (by omega)
    rw [HSV.out] at HQ
    have HQQ := hide HQ
    have hBg := below2 hBf ((Below.refl _ w8).alloc (Nat.le_refl _) (Obj.cells #[Value.string u, Value.string v, Value.string s] 9))
    clear HQ HSV hBf
    go_wp2_with fail
    refine HQQ.out.mono ?_
    rintro e w9 ⟨rfl, hB9⟩
    have hBh := below2 hBg hB9
    clear hBg hB9 HQQ
    have hS := HS3.out
    clear HS3
    obtain ⟨e1, he1⟩ : ∃ e, (u.toList == v.toList) = e := ⟨_, rfl⟩
    obtain ⟨e2, he2⟩ : ∃ e, (u.toList == s.toList) = e := ⟨_, rfl⟩
    obtain ⟨e3, he3⟩ : ∃ e, (v.toList == s.toList) = e := ⟨_, rfl⟩
    rw [he1, he2, he3] at hS
    cases e1 <;> cases e2 <;> cases e3 <;> cases b1 <;> cases b2 <;> cases b3 <;> (
      first
      | obtain rfl : S = true := hS
      | obtain rfl : S = false := hS
      go_wp2_with (go_at_call 24; refine (awake47_any _).mono ?_; rintro e w10 ⟨rfl, hB10⟩)
      go_ret
      exact ⟨rfl, below2 hBh hB10⟩)
end Go.Proofs.Ytmajalpmbppkpaa
