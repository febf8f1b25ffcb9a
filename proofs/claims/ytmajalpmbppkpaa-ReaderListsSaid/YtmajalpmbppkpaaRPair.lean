/- grooveref47.Distance: its contract for any strings. -/
import Derived.Test.YtmajalpmbppkpaaRTab
set_option linter.unusedVariables false
namespace Go.Proofs.Ytmajalpmbppkpaa
open Go.RowKit
set_option maxRecDepth 100000 in
set_option maxHeartbeats 1000000 in
theorem rdist_any (u v : ByteArray) (w : World) :
    Calls Try.prog 30 #[.string u, .string v] w fun e w' => e = .returned (.tuple #[.int .i64 (distV u v).1, .int .i64 (distV u v).2]) ∧ Below w.heap.size w w' := by
  have C0 := fun W => rtwo_any u v W
  by_cases hc : ckl [u, v] = 0
  · have hs := ckl_sizes hc
    have hu : u.size ≤ 256 := hs u (by simp)
    have hv : v.size ≤ 256 := hs v (by simp)
    have HD := hide (show distV u v = (((dst u v : Nat) : Int), 0) by unfold distV; rw [if_pos hc])
    have hd0 : dAt u v 0 0 = dst u v := by simp [dAt, dst]
    rw [hc] at C0
    have H0 := hide C0
    obtain ⟨D, hD⟩ : ∃ D, D = dst u v := ⟨_, rfl⟩
    rw [← hD] at HD hd0
    clear hc hs C0 hD
    obtain ⟨O, hO⟩ : ∃ O, w.heap.size = O := ⟨_, rfl⟩
    have H1 := hide (rtable_any u v hu hv w O hO)
    go_enter Try.func30, Try.ntmps30
    go_wp2_with fail
    refine (H0.out _).mono ?_
    rintro e w1 ⟨rfl, rfl⟩
    go_wp2_with fail
    refine H1.out.mono ?_
    rintro e w2 ⟨rfl, hT⟩
    have c0 := hT.outer 0 (Nat.le_refl _) (Nat.zero_le _)
    have c1 := hT.rows 0 (Nat.le_refl _) (Nat.zero_le _) 0 (Nat.zero_le _)
    rw [hd0] at c1
    rw [Nat.sub_zero] at c0 c1
    have hB := hT.bel
    have hu0 : (0 : Int) < (u.size : Int) + 1 := by omega
    have hv0 : (0 : Int) < (v.size : Int) + 1 := by omega
    clear hT
    go_wp2
    go_ret2
    exact ⟨by rw [HD.out]; rfl, hO ▸ hB⟩
  · have h7 : (ckl [u, v] != 0) = true := by simpa using hc
    have HD := hide (show distV u v = (0, ckl [u, v]) by unfold distV; rw [if_neg hc])
    obtain ⟨z, hz⟩ : ∃ z, z = ckl [u, v] := ⟨_, rfl⟩
    rw [← hz] at h7 HD C0
    have H0 := hide C0
    clear hc hz C0
    go_enter Try.func30, Try.ntmps30
    go_wp2_with fail
    refine (H0.out _).mono ?_
    rintro e w1 ⟨rfl, rfl⟩
    go_wp2
    go_ret2
    exact ⟨by rw [HD.out]; rfl, Below.refl _ _⟩
def confV (u v : ByteArray) (n : Int) : Bool × Int :=
  if ckl [u, v] ≠ 0 then (false, ckl [u, v]) else if u.size ≠ v.size then (false, 11) else if n < 0 ∨ (u.size : Int) < n then (false, 2) else (decide ((dst u v : Int) ≤ 2 * n), 0)
set_option maxRecDepth 100000 in
set_option maxHeartbeats 1000000 in
theorem rconf_any (u v : ByteArray) (n : Int) (w : World) :
    Calls Try.prog 33 #[.string u, .string v, .int .i64 n] w fun e w' => e = .returned (.tuple #[.bool (confV u v n).1, .int .i64 (confV u v n).2]) ∧ Below w.heap.size w w' := by
  have C0 := fun W => rtwo_any u v W
  by_cases hc : ckl [u, v] = 0
  · have hs := ckl_sizes hc
    have hu : u.size ≤ 256 := hs u (by simp)
    have hv : v.size ≤ 256 := hs v (by simp)
    rw [hc] at C0
    have H0 := hide C0
    by_cases he : u.size = v.size
    · have heb : ((u.size : Int) != (v.size : Int)) = false := by rw [bne_eq_false_iff_eq]; omega
      by_cases hr : n < 0 ∨ (u.size : Int) < n
      · have HD := hide (show confV u v n = (false, 2) by unfold confV; rw [if_neg (by simpa using hc), if_neg (by simpa using he), if_pos hr])
        clear hc hs C0 he
        by_cases h1 : n < 0
        · have hd1 : decide (n < 0) = true := decide_eq_true h1
          clear hr
          go_enter Try.func33, Try.ntmps33
          go_wp2_with fail
          refine (H0.out _).mono ?_
          rintro e w1 ⟨rfl, rfl⟩
          go_wp2
          go_ret2
          exact ⟨by rw [HD.out]; rfl, Below.refl _ _⟩
        · have hd1 : decide (n < 0) = false := decide_eq_false h1
          have hd2 : decide ((u.size : Int) < n) = true := decide_eq_true (by omega)
          clear hr
          go_enter Try.func33, Try.ntmps33
          go_wp2_with fail
          refine (H0.out _).mono ?_
          rintro e w1 ⟨rfl, rfl⟩
          go_wp2
          go_ret2
          exact ⟨by rw [HD.out]; rfl, Below.refl _ _⟩
      · have hd0 : dAt u v 0 0 = dst u v := by simp [dAt, dst]
        have HD := hide (show confV u v n = (decide ((dst u v : Int) ≤ 2 * n), 0) by unfold confV; rw [if_neg (by simpa using hc), if_neg (by simpa using he), if_neg hr])
        have hd1 : decide (n < 0) = false := decide_eq_false (by omega)
        have hd2 : decide ((u.size : Int) < n) = false := decide_eq_false (by omega)
        have hw2 : IntKind.i64.wrap (2 * n) = 2 * n := IntWalk.i64_in _ (by omega)
        obtain ⟨D, hD⟩ : ∃ D, D = dst u v := ⟨_, rfl⟩
        rw [← hD] at HD hd0
        clear hc hs C0 hD he hr
        obtain ⟨O, hO⟩ : ∃ O, w.heap.size = O := ⟨_, rfl⟩
        have H1 := hide (rtable_any u v hu hv w O hO)
        go_enter Try.func33, Try.ntmps33
        go_wp2_with fail
        refine (H0.out _).mono ?_
        rintro e w1 ⟨rfl, rfl⟩
        go_wp2_with fail
        refine H1.out.mono ?_
        rintro e w2 ⟨rfl, hT⟩
        have c0 := hT.outer 0 (Nat.le_refl _) (Nat.zero_le _)
        have c1 := hT.rows 0 (Nat.le_refl _) (Nat.zero_le _) 0 (Nat.zero_le _)
        rw [hd0] at c1
        rw [Nat.sub_zero] at c0 c1
        have hB := hT.bel
        have hu0 : (0 : Int) < (u.size : Int) + 1 := by omega
        have hv0 : (0 : Int) < (v.size : Int) + 1 := by omega
        clear hT
        go_wp2
        go_ret2
        exact ⟨by rw [HD.out]; rfl, hO ▸ hB⟩
    · have heb : ((u.size : Int) != (v.size : Int)) = true := by rw [bne_iff_ne]; omega
      have HD := hide (show confV u v n = (false, 11) by unfold confV; rw [if_neg (by simpa using hc), if_pos he])
      clear hc hs C0 he
      go_enter Try.func33, Try.ntmps33
      go_wp2_with fail
      refine (H0.out _).mono ?_
      rintro e w1 ⟨rfl, rfl⟩
      go_wp2
      go_ret2
      exact ⟨by rw [HD.out]; rfl, Below.refl _ _⟩
  · have h7 : (ckl [u, v] != 0) = true := by simpa using hc
    have HD := hide (show confV u v n = (false, ckl [u, v]) by unfold confV; rw [if_pos hc])
    obtain ⟨z, hz⟩ : ∃ z, z = ckl [u, v] := ⟨_, rfl⟩
    rw [← hz] at h7 HD C0
    have H0 := hide C0
    clear hc hz C0
    go_enter Try.func33, Try.ntmps33
    go_wp2_with fail
    refine (H0.out _).mono ?_
    rintro e w1 ⟨rfl, rfl⟩
    go_wp2
    go_ret2
    exact ⟨by rw [HD.out]; rfl, Below.refl _ _⟩
set_option maxRecDepth 100000 in
set_option maxHeartbeats 1000000 in
theorem iconf_any (u v : ByteArray) (n : Int) (w : World) :
    Calls Try.prog 32 #[.string u, .string v, .int .i64 n] w fun e w' => e = .returned (.tuple #[.bool (confV u v n).1, .int .i64 (confV u v n).2]) ∧ Below w.heap.size w w' := by
  have hrow : ∀ k (hk : k < [u, v].length), (w.alloc (Obj.cells #[Value.string u, Value.string v] 9)).cell? ⟨w.heap.size, k, none⟩ = some (.string [u, v][k]) := fun k hk => Strs.cell (Strs.lit w [u, v] (Nat.le_refl _) (by simp) _ rfl) hk
  have HI := icheck_any [u, v] w.heap.size 2 _ hrow (by simp)
  have HB0 := (Below.refl w.heap.size w).alloc (Nat.le_refl _) (Obj.cells #[Value.string u, Value.string v] 9)
  have HBB := hide HB0
  clear hrow HB0
  by_cases hc : ckl [u, v] = 0
  · have hs := ckl_sizes hc
    have hu : u.size ≤ 256 := hs u (by simp)
    have hv : v.size ≤ 256 := hs v (by simp)
    rw [hc] at HI
    have HII := hide HI
    by_cases he : u.size = v.size
    · have heb : ((u.size : Int) != (v.size : Int)) = false := by rw [bne_eq_false_iff_eq]; omega
      by_cases hr : n < 0 ∨ (u.size : Int) < n
      · have HD := hide (show confV u v n = (false, 2) by unfold confV; rw [if_neg (by simpa using hc), if_neg (by simpa using he), if_pos hr])
        clear hc hs HI he
        by_cases h1 : n < 0
        · have hd1 : decide (n < 0) = true := decide_eq_true h1
          clear hr
          go_enter Try.func32, Try.ntmps32
          go_wp2_with fail
          refine HII.out.mono ?_
          rintro e w1 ⟨rfl, q, rfl⟩
          go_wp2
          go_ret2
          exact ⟨by rw [HD.out]; rfl, belowN HBB.out q⟩
        · have hd1 : decide (n < 0) = false := decide_eq_false h1
          have hd2 : decide ((u.size : Int) < n) = true := decide_eq_true (by omega)
          clear hr
          go_enter Try.func32, Try.ntmps32
          go_wp2_with fail
          refine HII.out.mono ?_
          rintro e w1 ⟨rfl, q, rfl⟩
          go_wp2
          go_ret2
          exact ⟨by rw [HD.out]; rfl, belowN HBB.out q⟩
      · have hdl := dist_lcs u.data.toList v.data.toList
        obtain ⟨hl1, hl2⟩ := lcsAt_le0 u v
        have HD := hide (show confV u v n = (decide ((u.size : Int) - (lcsAt u v 0 0 : Int) ≤ n), 0) by
          unfold confV
          rw [if_neg (by simpa using hc), if_neg (by simpa using he), if_neg hr]
          congr 1
          rw [lcsAt_zero]
          simp at hdl
          unfold dst
          exact decide_eq_decide.2 (by omega))
        have hd1 : decide (n < 0) = false := decide_eq_false (by omega)
        have hd2 : decide ((u.size : Int) < n) = false := decide_eq_false (by omega)
        obtain ⟨L, hL⟩ : ∃ L, L = lcsAt u v 0 0 := ⟨_, rfl⟩
        rw [← hL] at HD hl1 hl2
        have HL := hide hL
        clear hc hs HI hL he hr hdl
        obtain ⟨B, hB⟩ : ∃ B, w.heap.size + 1 = B := ⟨_, rfl⟩
        go_enter Try.func32, Try.ntmps32
        go_wp2_with fail
        refine HII.out.mono ?_
        rintro e w1 ⟨rfl, q, rfl⟩
        go_wp2_with fail
        refine (table_b u v hu hv _ B (by simp [hB])).mono ?_
        rintro e w2 ⟨rfl, hT, hB2⟩
        go_wp2_with fail
        refine (tab_at0 u v hu hv B w2 hT).mono ?_
        rintro e w3 ⟨rfl, hT3, hB3⟩
        rw [← HL.out]
        have hB4 := (belowN HBB.out q).trans ((hB2.trans (hB3.below (by omega))).mono (by omega))
        clear hT hT3 hB2 hB3
        go_wp2
        go_ret2
        exact ⟨by rw [HD.out]; rfl, hB4⟩
    · have heb : ((u.size : Int) != (v.size : Int)) = true := by rw [bne_iff_ne]; omega
      have HD := hide (show confV u v n = (false, 11) by unfold confV; rw [if_neg (by simpa using hc), if_pos he])
      clear hc hs HI he
      go_enter Try.func32, Try.ntmps32
      go_wp2_with fail
      refine HII.out.mono ?_
      rintro e w1 ⟨rfl, q, rfl⟩
      go_wp2
      go_ret2
      exact ⟨by rw [HD.out]; rfl, belowN HBB.out q⟩
  · have h7 : (ckl [u, v] != 0) = true := by simpa using hc
    have HD := hide (show confV u v n = (false, ckl [u, v]) by unfold confV; rw [if_pos hc])
    obtain ⟨z, hz⟩ : ∃ z, z = ckl [u, v] := ⟨_, rfl⟩
    rw [← hz] at h7 HD HI
    have HII := hide HI
    clear hc hz HI
    go_enter Try.func32, Try.ntmps32
    go_wp2_with fail
    refine HII.out.mono ?_
    rintro e w1 ⟨rfl, q, rfl⟩
    go_wp2
    go_ret2
    exact ⟨by rw [HD.out]; rfl, belowN HBB.out q⟩
end Go.Proofs.Ytmajalpmbppkpaa
