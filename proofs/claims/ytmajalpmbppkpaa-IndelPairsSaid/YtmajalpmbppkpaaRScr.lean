/- grooveref47.Script: its contract for any strings. -/
import Derived.Test.YtmajalpmbppkpaaRPair
import Derived.Test.YtmajalpmbppkpaaScr
import Derived.BigQuiet
set_option linter.unusedVariables false
namespace Go.Proofs.Ytmajalpmbppkpaa
open Go.RowKit
theorem Evs.empty_ {w : World} {B g : Nat} (hg : w.heap.size = g) (hB : B ≤ g) : Evs (w.alloc (.cells #[] 47)) B (.slice (some ⟨g, 0, none⟩) 0 0) [] := by
  subst hg
  exact World.ownsRow_made (base := B) (e := 47) (size := 4) w #[] 0 hB (by decide) rfl
theorem Evs.drewN {w : World} {B : Nat} {v : Value} {xs : List Ev} (h : Evs w B v xs) (n : Nat) : Evs (w.drewN n) B v xs := h
/-- the table lies whole -/
structure TT (w : World) (O : Nat) (u v : ByteArray) : Prop where
  outer : ∀ t, t ≤ u.size → w.cell? ⟨O, t, none⟩ = some (.slice (some ⟨O + 1 + (u.size - t), 0, none⟩) (v.size + 1) (v.size + 1))
  rows : ∀ t, t ≤ u.size → ∀ q, q ≤ v.size → w.cell? ⟨O + 1 + (u.size - t), q, none⟩ = some (.int .i64 ((dAt u v t q : Nat) : Int))
theorem RT.tt {W w : World} {O : Nat} {u v : ByteArray} (h : RT W w O u v 0) : TT w O u v := ⟨fun t ht => h.outer t (Nat.zero_le _) ht, fun t ht => h.rows t (Nat.zero_le _) ht⟩
theorem TT.below {w w' : World} {O B : Nat} {u v : ByteArray} (h : TT w O u v) (hb : Below B w w') (hB : O + 2 + u.size ≤ B) : TT w' O u v :=
  ⟨fun t ht => (hb.cell (p := ⟨O, t, none⟩) (by simp only []; omega)).trans (h.outer t ht), fun t ht q hq => (hb.cell (p := ⟨O + 1 + (u.size - t), q, none⟩) (by simp only []; omega)).trans (h.rows t ht q hq)⟩
set_option maxRecDepth 100000 in
set_option maxHeartbeats 6000000 in
theorem rscript_any (u v : ByteArray) (w : World) :
    Calls Try.prog 34 #[.string u, .string v] w fun e w' => ∃ vl, e = .returned (.tuple #[vl, .int .i64 (scriptV u v).2]) ∧ Evs w' w.heap.size vl (scriptV u v).1 ∧ Below w.heap.size w w' := by
  have C0 := fun W => rtwo_any u v W
  by_cases hc : ckl [u, v] = 0
  · have hs := ckl_sizes hc
    have hu : u.size ≤ 256 := hs u (by simp)
    have hv : v.size ≤ 256 := hs v (by simp)
    have HD := hide (show scriptV u v = (evs (u.size + v.size + 1) u.data.toList v.data.toList 0, 0) by unfold scriptV; rw [if_pos hc])
    rw [hc] at C0
    have H0 := hide C0
    clear hc hs C0
    obtain ⟨O, hO⟩ : ∃ O, w.heap.size = O := ⟨_, rfl⟩
    have H1 := hide (rtable_any u v hu hv w O hO)
    go_enter Try.func34, Try.ntmps34
    go_wp2_with fail
    refine (H0.out _).mono ?_
    rintro e w1 ⟨rfl, rfl⟩
    go_wp2_with fail
    refine H1.out.mono ?_
    rintro e w2 ⟨rfl, hT⟩
    have hTT := hT.tt
    have hB := hT.bel
    obtain ⟨S, hS⟩ : ∃ S, w2.heap.size = S := ⟨_, rfl⟩
    have hSz : S = O + 2 + u.size := by have := hT.size; omega
    have hHS := hide hSz
    clear hT H0 H1
    have hE0 : Evs (w2.alloc (.cells #[] 47)) S (.slice (some ⟨S, 0, none⟩) 0 0) [] := Evs.empty_ hS (Nat.le_refl _)
    have hT0 := hTT.below ((Below.refl S w2).alloc (by omega) (.cells #[] 47)) (by omega)
    have hB0 := hB.alloc (by omega) (.cells #[] 47)
    have hz0 : S ≤ (w2.alloc (.cells #[] 47)).heap.size := by rw [← hS]; simp
    clear hTT hB hSz
    go_wp2_with fail
    go_loopw [8, 9, 10] (fun vl iv kv wr => ∃ (xs : List Ev) (i k f : Nat), Evs wr S vl xs ∧ iv = .int .i64 i ∧ kv = .int .i64 k ∧ i ≤ u.size ∧ k ≤ v.size ∧ (u.size - i) + (v.size - k) < f ∧ xs.length ≤ i + k ∧
      Hid (evs (u.size + v.size + 1) u.data.toList v.data.toList 0 = xs ++ evs f (u.data.toList.drop i) (v.data.toList.drop k) i) ∧ TT wr O u v ∧ Below O w wr ∧ S ≤ wr.heap.size)
      (fun _ iv kv _ => (u.size - (intOf iv).toNat) + (v.size - (intOf kv).toNat))
    case atStart => exact ⟨[], 0, 0, u.size + v.size + 1, hE0, rfl, rfl, Nat.zero_le _, Nat.zero_le _, by omega, Nat.zero_le _, hide (by simp), hT0, hB0, hz0⟩
    case round =>
      obtain ⟨xs, i, k, f, hown, rfl, rfl, hi, hk, hf, hlen, hE, hT, hBw, hsz⟩ := hrel
      clear hE0 hT0 hB0 hz0
      obtain ⟨f, rfl⟩ : ∃ f', f = f' + 1 := ⟨f - 1, by omega⟩
      obtain ⟨D, hD⟩ : ∃ D, D = dAt u v i k := ⟨_, rfl⟩
      have hD6 : D ≤ 512 := by have := dAt_lcs u v i k hi hk; omega
      have i0 : (0 : Int) ≤ (i : Int) := by omega
      have i1 : (i : Int) < (u.size : Int) + 1 := by omega
      have k0 : (0 : Int) ≤ (k : Int) := by omega
      have k1 : (k : Int) < (v.size : Int) + 1 := by omega
      have co := hT.outer i hi
      have cr := hT.rows i hi k hk
      rw [← hD] at cr
      by_cases h0 : D = 0
      · have HZ := hide (evs_zero (f + 1) (hD ▸ h0))
        subst h0
        clear hD
        go_wp2
        go_ret2
        refine ⟨_, by rw [HD.out]; rfl, ?_, hO ▸ hBw⟩
        rw [HD.out, hE.out, HZ.out, List.append_nil]
        exact hown.mono (by have := hHS.out; omega)
      · have hDp : 0 < D := by omega
        have h00 : dAt u v i k ≠ 0 := by rw [← hD]; exact h0
        by_cases hdel : i < u.size ∧ dAt u v (i + 1) k + 1 = dAt u v i k
        · have hE2 := hide (evs_del f h00 hdel.1 hdel.2)
          have hi' := hdel.1
          obtain ⟨D1, hD1⟩ : ∃ D1, D1 = dAt u v (i + 1) k := ⟨_, rfl⟩
          have co1 := hT.outer (i + 1) (by omega)
          have cr1 := hT.rows (i + 1) (by omega) k hk
          rw [← hD1] at cr1
          have hb1 := dAt_lcs u v (i + 1) k (by omega) hk
          have w1i : IntKind.i64.wrap ((i : Int) + 1) = (i : Int) + 1 := IntWalk.i64_in _ (by omega)
          have w1D : IntKind.i64.wrap (1 + (D1 : Int)) = 1 + (D1 : Int) := IntWalk.i64_in _ (by omega)
          have i2 : (0 : Int) ≤ (i : Int) + 1 := by omega
          have i3 : (i : Int) + 1 < (u.size : Int) + 1 := by omega
          have i4 : ((i : Int) + 1).toNat = i + 1 := by omega
          have i5 : decide ((i : Int) < (u.size : Int)) = true := decide_eq_true (by omega)
          have hcmp : (1 + (D1 : Int) == (D : Int)) = true := by rw [beq_iff_eq]; have := hdel.2; omega
          clear hD hD1 h00 hdel h0 hb1
          go_wp2_with fail
          go_quiet (fail)
          have hown := hown.drewN nq
          have hT := hT.below (belowN (Below.refl wr.heap.size wr) nq) (by have := hHS.out; omega)
          have hBw := belowN hBw nq
          have hsz : S ≤ (wr.drewN nq).heap.size := by simpa using hsz
          obtain ⟨wq, hwq⟩ : ∃ wq, wq = wr.drewN nq := ⟨_, rfl⟩
          rw [← hwq] at hown hT hBw hsz ⊢
          clear hwq
          go_wp2_with (at_builtin; refine wpList_app_ev rfl (.tmp 52) (.tmp 55) rfl S _ _ rfl (hown.alloc _) wq.heap.size ⟨4, i, 1, 0⟩ rfl (heap_alloc_new wq _) (by omega) (by simp; omega) ?_; intro v1 wz hown2 hg1)
          have hbelw := below_appev ((Below.refl S wq).alloc hsz _) (by simp; omega) (hown.alloc _) hg1
          have hT2 := hT.below hbelw (by have := hHS.out; omega)
          have hB4 := hBw.trans (hbelw.mono (by have := hHS.out; omega))
          have hsz2 : S ≤ wz.heap.size := by have := hbelw.size; omega
          clear hg1 hown hT hBw hbelw
          go_roundw
          case rel =>
            refine ⟨_, i + 1, k, f, hown2, by go_num, rfl, hi', hk, by omega, by simp; omega, hide ?_, hT2, hB4, hsz2⟩
            rw [hE.out, hE2.out]; simp
          case measure => simp [intOf]; omega
        · have hk' : k < v.size := dAt_room h00 hdel
          obtain ⟨D2, hD2⟩ : ∃ D2, D2 = dAt u v i (k + 1) := ⟨_, rfl⟩
          have cr2 := hT.rows i hi (k + 1) (by omega)
          rw [← hD2] at cr2
          have hb2 := dAt_lcs u v i (k + 1) hi (by omega)
          have w2k : IntKind.i64.wrap ((k : Int) + 1) = (k : Int) + 1 := IntWalk.i64_in _ (by omega)
          have w2D : IntKind.i64.wrap (1 + (D2 : Int)) = 1 + (D2 : Int) := IntWalk.i64_in _ (by omega)
          have k2 : (0 : Int) ≤ (k : Int) + 1 := by omega
          have k3 : (k : Int) + 1 < (v.size : Int) + 1 := by omega
          have k4 : ((k : Int) + 1).toNat = k + 1 := by omega
          have k5 : decide ((k : Int) < (v.size : Int)) = true := decide_eq_true (by omega)
          by_cases hins : dAt u v i (k + 1) + 1 = dAt u v i k
          · have hE2 := hide (evs_ins f h00 hdel hk' hins)
            have hcmp2 : (1 + (D2 : Int) == (D : Int)) = true := by rw [beq_iff_eq]; omega
            have HDD := hide hD
            have HDD2 := hide hD2
            by_cases hi' : i < u.size
            · obtain ⟨D1, hD1⟩ : ∃ D1, D1 = dAt u v (i + 1) k := ⟨_, rfl⟩
              have co1 := hT.outer (i + 1) (by omega)
              have cr1 := hT.rows (i + 1) (by omega) k hk
              rw [← hD1] at cr1
              have hb1 := dAt_lcs u v (i + 1) k (by omega) hk
              have w1i : IntKind.i64.wrap ((i : Int) + 1) = (i : Int) + 1 := IntWalk.i64_in _ (by omega)
              have w1D : IntKind.i64.wrap (1 + (D1 : Int)) = 1 + (D1 : Int) := IntWalk.i64_in _ (by omega)
              have i2 : (0 : Int) ≤ (i : Int) + 1 := by omega
              have i3 : (i : Int) + 1 < (u.size : Int) + 1 := by omega
              have i4 : ((i : Int) + 1).toNat = i + 1 := by omega
              have i5 : decide ((i : Int) < (u.size : Int)) = true := decide_eq_true (by omega)
              have hcmp : (1 + (D1 : Int) == (D : Int)) = false := by
                rw [beq_eq_false_iff_ne]; intro e; apply hdel
                exact ⟨hi', by rw [← hD1, ← hD]; omega⟩
              clear hD hD1 hD2 h00 hdel h0 hins hb1 hb2
              go_wp2_with fail
              go_quiet (fail)
              have hown := hown.drewN nq
              have hT := hT.below (belowN (Below.refl wr.heap.size wr) nq) (by have := hHS.out; omega)
              have hBw := belowN hBw nq
              have hsz : S ≤ (wr.drewN nq).heap.size := by simpa using hsz
              obtain ⟨wq, hwq⟩ : ∃ wq, wq = wr.drewN nq := ⟨_, rfl⟩
              rw [← hwq] at hown hT hBw hsz ⊢
              clear hwq
              have co := hT.outer i hi
              have cr := hT.rows i hi k hk
              have cr2 := hT.rows i hi (k + 1) (by omega)
              rw [← HDD.out] at cr
              rw [← HDD2.out] at cr2
              go_wp2_with fail
              go_quiet (fail)
              have hown := hown.drewN nq
              have hT := hT.below (belowN (Below.refl wq.heap.size wq) nq) (by have := hHS.out; omega)
              have hBw := belowN hBw nq
              have hsz : S ≤ (wq.drewN nq).heap.size := by simpa using hsz
              obtain ⟨wq2, hwq⟩ : ∃ wq2, wq2 = wq.drewN nq := ⟨_, rfl⟩
              rw [← hwq] at hown hT hBw hsz ⊢
              clear hwq
              have hx1 : (k : Int) < (v.size : Int) := by omega
              go_wp2_with (first
                | (go_at_call 71; refine (digit_any _ _).mono ?_; rintro e wx ⟨rfl, rfl⟩)
                | (at_builtin; refine wpList_app_ev rfl (.tmp 82) (.tmp 89) rfl S _ _ rfl (hown.alloc _) wq2.heap.size ⟨5, i, 1, dig v[k]⟩ rfl (heap_alloc_new wq2 _) (by omega) (by simp; omega) ?_; intro v1 wz hown2 hg1))
              have hbelw := below_appev ((Below.refl S wq2).alloc hsz _) (by simp; omega) (hown.alloc _) hg1
              have hT2 := hT.below hbelw (by have := hHS.out; omega)
              have hB4 := hBw.trans (hbelw.mono (by have := hHS.out; omega))
              have hsz2 : S ≤ wz.heap.size := by have := hbelw.size; omega
              clear hg1 hown hT hBw hbelw
              go_roundw
              case rel =>
                refine ⟨_, i, k + 1, f, hown2, rfl, by go_num, hi, hk', by omega, by simp; omega, hide ?_, hT2, hB4, hsz2⟩
                rw [hE.out, hE2.out]; simp
              case measure => simp [intOf]; omega
            · have hi2 : decide (i < u.size) = false := decide_eq_false (by omega)
              clear hD hD2 h00 hdel h0 hins hb2 hi'
              go_wp2_with fail
              go_quiet (fail)
              have hown := hown.drewN nq
              have hT := hT.below (belowN (Below.refl wr.heap.size wr) nq) (by have := hHS.out; omega)
              have hBw := belowN hBw nq
              have hsz : S ≤ (wr.drewN nq).heap.size := by simpa using hsz
              obtain ⟨wq, hwq⟩ : ∃ wq, wq = wr.drewN nq := ⟨_, rfl⟩
              rw [← hwq] at hown hT hBw hsz ⊢
              clear hwq
              have co := hT.outer i hi
              have cr := hT.rows i hi k hk
              have cr2 := hT.rows i hi (k + 1) (by omega)
              rw [← HDD.out] at cr
              rw [← HDD2.out] at cr2
              go_wp2_with fail
              go_quiet (fail)
              have hown := hown.drewN nq
              have hT := hT.below (belowN (Below.refl wq.heap.size wq) nq) (by have := hHS.out; omega)
              have hBw := belowN hBw nq
              have hsz : S ≤ (wq.drewN nq).heap.size := by simpa using hsz
              obtain ⟨wq2, hwq⟩ : ∃ wq2, wq2 = wq.drewN nq := ⟨_, rfl⟩
              rw [← hwq] at hown hT hBw hsz ⊢
              clear hwq
              have hx1 : (k : Int) < (v.size : Int) := by omega
              go_wp2_with (first
                | (go_at_call 71; refine (digit_any _ _).mono ?_; rintro e wx ⟨rfl, rfl⟩)
                | (at_builtin; refine wpList_app_ev rfl (.tmp 82) (.tmp 89) rfl S _ _ rfl (hown.alloc _) wq2.heap.size ⟨5, i, 1, dig v[k]⟩ rfl (heap_alloc_new wq2 _) (by omega) (by simp; omega) ?_; intro v1 wz hown2 hg1))
              have hbelw := below_appev ((Below.refl S wq2).alloc hsz _) (by simp; omega) (hown.alloc _) hg1
              have hT2 := hT.below hbelw (by have := hHS.out; omega)
              have hB4 := hBw.trans (hbelw.mono (by have := hHS.out; omega))
              have hsz2 : S ≤ wz.heap.size := by have := hbelw.size; omega
              clear hg1 hown hT hBw hbelw
              go_roundw
              case rel =>
                refine ⟨_, i, k + 1, f, hown2, rfl, by go_num, hi, hk', by omega, by simp; omega, hide ?_, hT2, hB4, hsz2⟩
                rw [hE.out, hE2.out]; simp
              case measure => simp [intOf]; omega
          · have hi' : i < u.size := dAt_room2 h00 (fun h => hins h.2)
            have hE2 := hide (evs_skip f h00 hdel (fun h => hins h.2))
            have hcmp2 : (1 + (D2 : Int) == (D : Int)) = false := by
              rw [beq_eq_false_iff_ne]; intro e; apply hins
              rw [← hD2, ← hD]; omega
            have HDD := hide hD
            have HDD2 := hide hD2
            obtain ⟨D1, hD1⟩ : ∃ D1, D1 = dAt u v (i + 1) k := ⟨_, rfl⟩
            have co1 := hT.outer (i + 1) (by omega)
            have cr1 := hT.rows (i + 1) (by omega) k hk
            rw [← hD1] at cr1
            have hb1 := dAt_lcs u v (i + 1) k (by omega) hk
            have w1i : IntKind.i64.wrap ((i : Int) + 1) = (i : Int) + 1 := IntWalk.i64_in _ (by omega)
            have w1D : IntKind.i64.wrap (1 + (D1 : Int)) = 1 + (D1 : Int) := IntWalk.i64_in _ (by omega)
            have i2 : (0 : Int) ≤ (i : Int) + 1 := by omega
            have i3 : (i : Int) + 1 < (u.size : Int) + 1 := by omega
            have i4 : ((i : Int) + 1).toNat = i + 1 := by omega
            have i5 : decide ((i : Int) < (u.size : Int)) = true := decide_eq_true (by omega)
            have hcmp : (1 + (D1 : Int) == (D : Int)) = false := by
              rw [beq_eq_false_iff_ne]; intro e; apply hdel
              exact ⟨hi', by rw [← hD1, ← hD]; omega⟩
            clear hD hD1 hD2 h00 hdel h0 hins hb1 hb2
            go_wp2_with fail
            go_quiet (fail)
            have hown := hown.drewN nq
            have hT := hT.below (belowN (Below.refl wr.heap.size wr) nq) (by have := hHS.out; omega)
            have hBw := belowN hBw nq
            have hsz : S ≤ (wr.drewN nq).heap.size := by simpa using hsz
            obtain ⟨wq, hwq⟩ : ∃ wq, wq = wr.drewN nq := ⟨_, rfl⟩
            rw [← hwq] at hown hT hBw hsz ⊢
            clear hwq
            have co := hT.outer i hi
            have cr := hT.rows i hi k hk
            have cr2 := hT.rows i hi (k + 1) (by omega)
            rw [← HDD.out] at cr
            rw [← HDD2.out] at cr2
            go_wp2_with fail
            go_quiet (fail)
            have hown := hown.drewN nq
            have hT := hT.below (belowN (Below.refl wq.heap.size wq) nq) (by have := hHS.out; omega)
            have hBw := belowN hBw nq
            have hsz : S ≤ (wq.drewN nq).heap.size := by simpa using hsz
            obtain ⟨wq2, hwq⟩ : ∃ wq2, wq2 = wq.drewN nq := ⟨_, rfl⟩
            rw [← hwq] at hown hT hBw hsz ⊢
            clear hwq
            go_wp2
            go_roundw
            case rel =>
              refine ⟨_, i + 1, k + 1, f, hown, by go_num, by go_num, hi', hk', by omega, by omega, hide ?_, hT, hBw, hsz⟩
              rw [hE.out, hE2.out]
            case measure => simp [intOf]; omega
  · have h7 : (ckl [u, v] != 0) = true := by simpa using hc
    have HD := hide (show scriptV u v = ([], ckl [u, v]) by unfold scriptV; rw [if_neg hc])
    obtain ⟨z, hz⟩ : ∃ z, z = ckl [u, v] := ⟨_, rfl⟩
    rw [← hz] at h7 HD C0
    have H0 := hide C0
    clear hc hz C0
    go_enter Try.func34, Try.ntmps34
    go_wp2_with fail
    refine (H0.out _).mono ?_
    rintro e w1 ⟨rfl, rfl⟩
    go_wp2
    go_ret2
    refine ⟨_, by rw [HD.out]; rfl, ?_, Below.refl _ _⟩
    rw [HD.out]
    exact Evs.nil_ _ _
end Go.Proofs.Ytmajalpmbppkpaa
