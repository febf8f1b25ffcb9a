/- grooveref47.Separated: its contract for any list of strings and any number. -/
import Derived.Test.YtmajalpmbppkpaaRIns
set_option linter.unusedVariables false
namespace Go.Proofs.Ytmajalpmbppkpaa
open Go.RowKit
set_option maxRecDepth 100000 in
set_option maxHeartbeats 4000000 in
theorem rsep_any (xs : List ByteArray) (A : Option Addr) (c : Nat) (n : Int) (w : World) (hR : RowS w A xs) :
    Calls Try.prog 51 #[.slice A xs.length c, .int .i64 n] w fun e w' => e = .returned (.tuple #[.bool (sepV xs n).1, .int .i64 (sepV xs n).2]) ∧ Below w.heap.size w w' := by
  have HR := hide hR
  clear hR
  by_cases hm : 256 < xs.length
  · have HV := hide (show sepV xs n = (false, 4) by unfold sepV; rw [if_pos hm])
    have hd : decide ((256 : Int) < (xs.length : Int)) = true := decide_eq_true (by omega)
    go_enter Try.func51, Try.ntmps51
    go_wp2
    go_ret2
    exact ⟨by rw [HV.out]; rfl, Below.refl _ _⟩
  have hd : decide ((256 : Int) < (xs.length : Int)) = false := decide_eq_false (by omega)
  have hlen : xs.length ≤ 256 := by omega
  have HM := hide hm
  clear hm
  by_cases hem : xs.length = 0
  · obtain rfl : xs = [] := List.eq_nil_of_length_eq_zero hem
    clear hem
    have HV0 : sepV [] n = if n < 0 ∨ (0 : Int) < n then (false, 2) else (true, 0) := by
      unfold sepV
      rw [if_neg (by simp), if_neg (by simp [ckAll]), if_neg (by simp)]
      rfl
    clear HR
    have hB0 := Below.refl w.heap.size w
    by_cases h1 : n < 0
    · have HV := hide (show sepV [] n = (false, 2) by rw [HV0, if_pos (.inl h1)])
      have hd1 : decide (n < 0) = true := decide_eq_true h1
      clear HV0
      go_enter Try.func51, Try.ntmps51
      go_wp2
      go_loopw [6] (fun iv wr => iv = .int .i64 0 ∧ wr = w) (fun _ _ => 0)
      case atStart => exact ⟨rfl, rfl⟩
      case round =>
        obtain ⟨rfl, rfl⟩ := hrel
        go_wp2
        go_loopw [8] (fun iv w2 => iv = .int .i64 0 ∧ w2 = wr) (fun _ _ => 0)
        case atStart => exact ⟨rfl, rfl⟩
        case round =>
          obtain ⟨rfl, rfl⟩ := hrel
          go_wp2
          go_ret2
          exact ⟨by rw [HV.out]; rfl, hB0⟩
    · have hd1 : decide (n < 0) = false := decide_eq_false h1
      by_cases h2 : (0 : Int) < n
      · have HV := hide (show sepV [] n = (false, 2) by rw [HV0, if_pos (.inr h2)])
        have hd2 : decide (0 < n) = true := decide_eq_true h2
        clear HV0
        go_enter Try.func51, Try.ntmps51
        go_wp2
        go_loopw [6] (fun iv wr => iv = .int .i64 0 ∧ wr = w) (fun _ _ => 0)
        case atStart => exact ⟨rfl, rfl⟩
        case round =>
          obtain ⟨rfl, rfl⟩ := hrel
          go_wp2
          go_loopw [8] (fun iv w2 => iv = .int .i64 0 ∧ w2 = wr) (fun _ _ => 0)
          case atStart => exact ⟨rfl, rfl⟩
          case round =>
            obtain ⟨rfl, rfl⟩ := hrel
            go_wp2
            go_ret2
            exact ⟨by rw [HV.out]; rfl, hB0⟩
      · have HV := hide (show sepV [] n = (true, 0) by rw [HV0, if_neg (by omega)])
        have hd2 : decide (0 < n) = false := decide_eq_false h2
        clear HV0
        go_enter Try.func51, Try.ntmps51
        go_wp2
        go_loopw [6] (fun iv wr => iv = .int .i64 0 ∧ wr = w) (fun _ _ => 0)
        case atStart => exact ⟨rfl, rfl⟩
        case round =>
          obtain ⟨rfl, rfl⟩ := hrel
          go_wp2
          go_loopw [8] (fun iv w2 => iv = .int .i64 0 ∧ w2 = wr) (fun _ _ => 0)
          case atStart => exact ⟨rfl, rfl⟩
          case round =>
            obtain ⟨rfl, rfl⟩ := hrel
            go_wp2
            go_loopw [9] (fun iv w3 => iv = .int .i64 0 ∧ w3 = wr) (fun _ _ => 0)
            case atStart => exact ⟨rfl, rfl⟩
            case round =>
              obtain ⟨rfl, rfl⟩ := hrel
              go_wp2
              go_ret2
              exact ⟨by rw [HV.out]; rfl, hB0⟩
  have hpos : 0 < xs.length := by omega
  clear hem
  obtain ⟨B, hB⟩ : ∃ B, w.heap.size = B := ⟨_, rfl⟩
  go_enter Try.func51, Try.ntmps51
  go_wp2
  go_loopw [6] (fun iv wr => ∃ k : Nat, iv = .int .i64 k ∧ k ≤ xs.length ∧ Hid (∀ j (hj : j < xs.length), j < k → ckl [xs[j]] = 0) ∧ Below B w wr) (fun iv _ => xs.length - (intOf iv).toNat)
  case atStart => exact ⟨0, rfl, Nat.zero_le _, hide fun j _ h => absurd h (by omega), Below.refl _ _⟩
  case round =>
    obtain ⟨k, rfl, hk, hK, hBw⟩ := hrel
    by_cases hlt : k < xs.length
    · obtain ⟨a, rfl, ha, hcell⟩ := (HR.out.below (by rw [hB]; exact hBw)) (by omega)
      have c1 := hcell k hlt
      obtain ⟨x, hx⟩ : ∃ x, x = xs[k] := ⟨_, rfl⟩
      rw [← hx] at c1
      have HI := fun W => rchk_one x W
      have hk0 : (0 : Int) ≤ (k : Int) := by omega
      have hk1 : (k : Int) < (xs.length : Int) := by omega
      obtain ⟨z, hz⟩ : ∃ z, z = ckl [x] := ⟨_, rfl⟩
      rw [← hz] at HI
      have HII := hide HI
      have HX := hide hx
      have HZ := hide hz
      clear hcell HI hx hz
      by_cases h0 : z = 0
      · subst h0
        go_wp2_with fail
        refine (HII.out _).mono ?_
        rintro e w1 ⟨rfl, rfl⟩
        go_wp2
        go_roundw
        case rel =>
          refine ⟨k + 1, by go_num, hlt, hide fun j hj hjk => ?_, hBw⟩
          rcases Nat.lt_or_ge j k with h | h
          · exact hK.out j hj h
          · obtain rfl : j = k := by omega
            rw [← HX.out]; exact HZ.out.symm
        case measure => simp [intOf]; omega
      · have h7 : (z != 0) = true := by simpa using h0
        have HV := hide (show sepV xs n = (false, z) by
          have h1 := ckAll_at hlt hK.out (by rw [← HX.out, ← HZ.out]; exact h0)
          rw [← HX.out, ← HZ.out] at h1
          unfold sepV
          rw [if_neg HM.out, if_pos (by rw [h1]; exact h0), h1])
        clear h0
        go_wp2_with fail
        refine (HII.out _).mono ?_
        rintro e w1 ⟨rfl, rfl⟩
        go_wp2
        go_ret2
        exact ⟨by rw [HV.out]; rfl, by first | exact hBw | (rw [hB]; exact hBw)⟩
    · obtain rfl : k = xs.length := by omega
      have HC0 := hide (ckAll_zero fun j hj => hK.out j hj hj)
      have HSZ := hide (fun j (hj : j < xs.length) => ckl_sizes (hK.out j hj hj) xs[j] (by simp))
      clear hK
      go_wp2
      go_loopw [8] (fun iv wr => ∃ k : Nat, iv = .int .i64 k ∧ k ≤ xs.length ∧ Hid (∀ j (hj : j < xs.length), j < k → xs[j].size = let0 xs) ∧ Below B w wr) (fun iv _ => xs.length - (intOf iv).toNat)
      case atStart => exact ⟨0, rfl, Nat.zero_le _, hide fun j _ h => absurd h (by omega), hBw⟩
      case round =>
        obtain ⟨k, rfl, hk, hK, hBk⟩ := hrel
        clear hBw
        by_cases hlt : k < xs.length
        · obtain ⟨a, rfl, ha, hcell⟩ := (HR.out.below (by rw [hB]; exact hBk)) (by omega)
          have c1 := hcell k hlt
          have c0 := hcell 0 (by omega)
          rw [add_zero_] at c0
          have hk0 : (0 : Int) ≤ (k : Int) := by omega
          have hk1 : (k : Int) < (xs.length : Int) := by omega
          have hk2 : (0 : Int) < (xs.length : Int) := by omega
          have hk3 : 0 < xs.length := by omega
          obtain ⟨x, hx⟩ : ∃ x, x = xs[k] := ⟨_, rfl⟩
          obtain ⟨y, hy⟩ : ∃ y, y = xs[0] := ⟨_, rfl⟩
          rw [← hx] at c1
          rw [← hy] at c0
          have HX := hide hx
          have hyL : y.size = let0 xs := by rw [hy]; exact let0_get _
          have HY := hide hyL
          clear hcell hx hy
          by_cases hs : x.size = y.size
          · have hsb : ((x.size : Int) != (y.size : Int)) = false := by rw [bne_eq_false_iff_eq]; omega
            have HS := hide hs
            clear hs hyL
            go_wp2_with fail
            go_quiet (fail)
            go_wp2
            go_roundw
            case rel =>
              refine ⟨k + 1, by go_num, hlt, hide fun j hj hjk => ?_, belowN hBk _⟩
              rcases Nat.lt_or_ge j k with h | h
              · exact hK.out j hj h
              · obtain rfl : j = k := by omega
                rw [← HX.out, ← HY.out]; exact HS.out
            case measure => simp [intOf]; omega
          · have hsb : ((x.size : Int) != (y.size : Int)) = true := by rw [bne_iff_ne]; omega
            have HV := hide (show sepV xs n = (false, 11) by
              unfold sepV
              rw [if_neg HM.out, if_neg (by rw [HC0.out]; simp), if_pos (fun h => hs (by rw [HX.out, hyL]; exact h _ (List.getElem_mem _)))])
            clear hs hyL
            go_wp2_with fail
            go_quiet (fail)
            go_wp2
            go_ret2
            exact ⟨by rw [HV.out]; rfl, by first | exact belowN hBk _ | (rw [hB]; exact belowN hBk _)⟩
        · obtain rfl : k = xs.length := by omega
          have HSS := hide (fun j (hj : j < xs.length) => hK.out j hj hj)
          have HALL := hide (show ¬ ¬ ∀ x ∈ xs, x.size = let0 xs from not_not_intro fun x hx => by obtain ⟨j, hj, rfl⟩ := List.getElem_of_mem hx; exact hK.out j hj hj)
          clear hK
          obtain ⟨a, rfl, ha, hcell⟩ := (HR.out.below (by rw [hB]; exact hBk)) (by omega)
          have c0 := hcell 0 hpos
          rw [add_zero_] at c0
          obtain ⟨y, hy⟩ : ∃ y, y = xs[0] := ⟨_, rfl⟩
          rw [← hy] at c0
          have hyL : y.size = let0 xs := by rw [hy]; exact let0_get hpos
          have HYL := hide hyL
          have hz : ((xs.length : Int) == 0) = false := by rw [beq_eq_false_iff_ne]; omega
          have hz2 : decide (0 < xs.length) = true := decide_eq_true hpos
          have hz3 : (0 : Int) < (xs.length : Int) := by omega
          clear hcell hy
          by_cases hr : n < 0 ∨ (y.size : Int) < n
          · have HV := hide (show sepV xs n = (false, 2) by
              unfold sepV
              rw [if_neg HM.out, if_neg (by rw [HC0.out]; simp), if_neg HALL.out, ← hyL, if_pos hr])
            clear hyL
            by_cases h1 : n < 0
            · have hd1 : decide (n < 0) = true := decide_eq_true h1
              clear hr
              go_wp2
              go_ret2
              exact ⟨by rw [HV.out]; rfl, by first | exact hBk | (rw [hB]; exact hBk)⟩
            · have hd1 : decide (n < 0) = false := decide_eq_false h1
              have hd2 : decide ((y.size : Int) < n) = true := decide_eq_true (by omega)
              clear hr
              go_wp2
              go_ret2
              exact ⟨by rw [HV.out]; rfl, by first | exact hBk | (rw [hB]; exact hBk)⟩
          · have hd1 : decide (n < 0) = false := decide_eq_false (by omega)
            have hd2 : decide ((y.size : Int) < n) = false := decide_eq_false (by omega)
            have hn0 : 0 ≤ n := by omega
            have hn256 : n ≤ 256 := by
              have := HSZ.out 0 hpos
              rw [let0_get hpos] at this
              omega
            have HV := hide (show sepV xs n = (sepB xs n, 0) by
              unfold sepV
              rw [if_neg HM.out, if_neg (by rw [HC0.out]; simp), if_neg HALL.out, ← hyL, if_neg hr])
            clear hr HC0 HALL HM hyL
            go_wp2
            clear c0
            go_loopw [9] (fun iv wr => ∃ i : Nat, iv = .int .i64 i ∧ i ≤ xs.length ∧ Hid (∀ i' k' (hi : i' < xs.length) (hk : k' < i'), i' < i → near n xs[i'] (xs[k']'(by omega)) = false) ∧ Below B w wr) (fun iv _ => xs.length - (intOf iv).toNat)
            case atStart => exact ⟨0, rfl, Nat.zero_le _, hide fun _ _ _ _ h => absurd h (by omega), hBk⟩
            case round =>
              obtain ⟨i, rfl, hi, hI, hBi⟩ := hrel
              by_cases hlt : i < xs.length
              · have hi0 : (0 : Int) ≤ (i : Int) := by omega
                have hi1 : (i : Int) < (xs.length : Int) := by omega
                go_wp2
                go_loopw [10] (fun kv wr => ∃ k : Nat, kv = .int .i64 k ∧ k ≤ i ∧ Hid (∀ k' (hk : k' < i), k' < k → near n xs[i] (xs[k']'(by omega)) = false) ∧ Below B w wr) (fun kv _ => i - (intOf kv).toNat)
                case atStart => exact ⟨0, rfl, Nat.zero_le _, hide fun _ _ h => absurd h (by omega), hBi⟩
                case round =>
                  obtain ⟨k, rfl, hk, hK, hBk⟩ := hrel
                  by_cases hlk : k < i
                  · obtain ⟨a', e', hab, hcell⟩ := (HR.out.below (by rw [hB]; exact hBk)) (by omega)
                    cases e'
                    have hkx : k < xs.length := by omega
                    have c1 := hcell i hlt
                    have c2 := hcell k hkx
                    obtain ⟨u, hu⟩ : ∃ u, u = xs[i] := ⟨_, rfl⟩
                    rw [← hu] at c1
                    have HU := hide hu
                    obtain ⟨v, hv⟩ : ∃ v, v = xs[k] := ⟨_, rfl⟩
                    rw [← hv] at c2
                    have HVV := hide hv
                    have hk0 : (0 : Int) ≤ (k : Int) := by omega
                    have hk1 : (k : Int) < (xs.length : Int) := by omega
                    have hkd : decide (k < i) = true := decide_eq_true hlk
                    have hu6 : u.size ≤ 256 := by rw [hu]; exact HSZ.out i hlt
                    have hv6 : v.size ≤ 256 := by rw [hv]; exact HSZ.out k hkx
                    have HNN : Hid (near n xs[i] xs[k] = near n u v) := by rw [HU.out, HVV.out]; exact hide rfl
                    clear hcell hu hv
                    by_cases he : u = v
                    · have HN := hide (show near n u v = false by simp [near, he])
                      subst he
                      have hself : (u.toList == u.toList) = true := by simp
                      go_wp2_with fail
                      go_quiet (fail)
                      go_wp2
                      go_roundw
                      case rel =>
                        refine ⟨k + 1, by go_num, hlk, hide fun k' hk' h => ?_, belowN hBk _⟩
                        rcases Nat.lt_or_ge k' k with h' | h'
                        · exact hK.out k' hk' h'
                        · obtain rfl : k' = k := by omega
                          exact HNN.out.trans HN.out
                      case measure => simp [intOf]; omega
                    · have heb : ¬ u.toList = v.toList := fun e => he (by rw [ByteArray.toList_eq, ByteArray.toList_eq] at e; cases u; cases v; simp_all)
                      have heb2 : (u.toList == v.toList) = false := by simpa using heb
                      have HD := hide (show near n u v = decide ((dst u v : Int) ≤ 2 * n) by
                        unfold near
                        rw [decide_eq_true he, Bool.true_and])
                      have hd0 : dAt u v 0 0 = dst u v := by simp [dAt, dst]
                      obtain ⟨D, hD⟩ : ∃ D, D = dst u v := ⟨_, rfl⟩
                      rw [← hD] at HD hd0
                      have HD0 := hide hd0
                      obtain ⟨C, hC⟩ : ∃ C, wr.heap.size = C := ⟨_, rfl⟩
                      have hCB : B ≤ C := by have := hBk.size; omega
                      have hu0 : (0 : Int) < (u.size : Int) + 1 := by omega
                      have hv0 : (0 : Int) < (v.size : Int) + 1 := by omega
                      have HT := hide (fun W (hW : W.heap.size = C) => rtable_any u v hu6 hv6 W C hW)
                      clear hD he hd0
                      go_wp2_with fail
                      have hab' : a.block < C := by omega
                      have hw2 : IntKind.i64.wrap (2 * n) = 2 * n := IntWalk.i64_in _ (by omega)
                      -- REGION
                      refine wp_region_noPanic ?_
                      refine wp_region_held_drew (S := fun W => W.cell? (a.add i) = some (.string u) ∧ W.cell? (a.add k) = some (.string v)) (by kernel_rfl) ⟨c1, c2⟩ (fun hHeld => ?_)
                      refine wpAnyH_take (i := 0) (oi := _) (v := ?v0) rfl (by kernel_rfl) (by kernel_rfl) (by kernel_rfl) (fun _ _ _ h => h) (Or.inl ⟨by rfl, ?hy0⟩) (by assumption) ?rest0
                      case hy0 => (intro w hSw; (try dsimp only at hSw); go_simp; (try with_reducible rfl))
                      (try simp only [List.getElem_toArray, List.getElem_cons_zero, Act.put, List.setIfInBounds_toArray, List.set_cons_zero, List.set_cons_succ])
                      refine wpAnyH_take (i := 1) (oi := _) (v := ?v1) rfl (by kernel_rfl) (by kernel_rfl) (by kernel_rfl) (fun _ _ _ h => h) (Or.inl ⟨by rfl, ?hy1⟩) (by assumption) ?rest1
                      case hy1 => (intro w hSw; (try dsimp only at hSw); go_simp; (try with_reducible rfl))
                      (try simp only [List.getElem_toArray, List.getElem_cons_zero, List.getElem_cons_succ, Act.put, List.setIfInBounds_toArray, List.set_cons_zero, List.set_cons_succ])
                      refine wpAnyH_take (i := 2) (oi := _) (v := ?v2) rfl (by kernel_rfl) (by kernel_rfl) (by kernel_rfl) (fun _ _ _ h => h) (Or.inl ⟨by rfl, ?hy2⟩) (by assumption) ?rest2
                      case hy2 => (intro w hSw; (try dsimp only at hSw); go_simp; (try with_reducible rfl))
                      (try simp only [List.getElem_toArray, List.getElem_cons_zero, List.getElem_cons_succ, Act.put, List.setIfInBounds_toArray, List.set_cons_zero, List.set_cons_succ])
                      refine wpAnyH_take (i := 3) (oi := _) (v := ?v3) rfl (by kernel_rfl) (by kernel_rfl) (by kernel_rfl) (fun _ _ _ h => h) (Or.inl ⟨by rfl, ?hy3⟩) (by assumption) ?rest3
                      case hy3 => (intro w hSw; (try dsimp only at hSw); go_simp; (try with_reducible rfl))
                      (try simp only [List.getElem_toArray, List.getElem_cons_zero, List.getElem_cons_succ, Act.put, List.setIfInBounds_toArray, List.set_cons_zero, List.set_cons_succ])
                      refine wpAnyH_take (i := 4) (oi := _) (v := ?v4) rfl (by kernel_rfl) (by kernel_rfl) (by kernel_rfl) (fun _ _ _ h => h) (Or.inl ⟨by rfl, ?hy4⟩) (by assumption) ?rest4
                      case hy4 => (intro w hSw; (try dsimp only at hSw); go_simp; (try with_reducible rfl))
                      (try simp only [List.getElem_toArray, List.getElem_cons_zero, List.getElem_cons_succ, Act.put, List.setIfInBounds_toArray, List.set_cons_zero, List.set_cons_succ])
                      refine wpAnyH_take (i := 5) (oi := _) (v := ?v5) rfl (by kernel_rfl) (by kernel_rfl) (by kernel_rfl) (fun _ _ _ h => h) (Or.inl ⟨by rfl, ?hy5⟩) (by assumption) ?rest5
                      case hy5 => (intro w hSw; (try dsimp only at hSw); go_simp; (try with_reducible rfl))
                      (try simp only [List.getElem_toArray, List.getElem_cons_zero, List.getElem_cons_succ, Act.put, List.setIfInBounds_toArray, List.set_cons_zero, List.set_cons_succ])
                      refine wpAnyH_take (i := 6) (oi := _) (v := ?v6) rfl (by kernel_rfl) (by kernel_rfl) (by kernel_rfl) (fun _ _ _ h => h) (Or.inl ⟨by rfl, ?hy6⟩) (by assumption) ?rest6
                      case hy6 => (intro w hSw; (try dsimp only at hSw); go_simp; (try with_reducible rfl))
                      (try simp only [List.getElem_toArray, List.getElem_cons_zero, List.getElem_cons_succ, Act.put, List.setIfInBounds_toArray, List.set_cons_zero, List.set_cons_succ])
                      refine wpAnyH_take (i := 7) (oi := _) (v := ?v7) rfl (by kernel_rfl) (by kernel_rfl) (by kernel_rfl) (fun _ _ _ h => h) (Or.inl ⟨by rfl, ?hy7⟩) (by assumption) ?rest7
                      case hy7 => (intro w hSw; (try dsimp only at hSw); go_simp; (try with_reducible rfl))
                      (try simp only [List.getElem_toArray, List.getElem_cons_zero, List.getElem_cons_succ, Act.put, List.setIfInBounds_toArray, List.set_cons_zero, List.set_cons_succ])
                      refine wpAnyH_take (i := 8) (oi := _) (v := ?v8) rfl (by kernel_rfl) (by kernel_rfl) (by kernel_rfl) (fun _ _ _ h => h) (Or.inl ⟨by rfl, ?hy8⟩) (by assumption) ?rest8
                      case hy8 => (intro w hSw; (try dsimp only at hSw); go_simp; (try with_reducible rfl))
                      (try simp only [List.getElem_toArray, List.getElem_cons_zero, List.getElem_cons_succ, Act.put, List.setIfInBounds_toArray, List.set_cons_zero, List.set_cons_succ])
                      refine wpAnyH_take (i := 9) (oi := _) (v := ?v9) rfl (by kernel_rfl) (by kernel_rfl) (by kernel_rfl) (fun _ _ _ h => h) (Or.inl ⟨by rfl, ?hy9⟩) (by assumption) ?rest9
                      case hy9 => (intro w hSw; (try dsimp only at hSw); go_simp; (try with_reducible rfl))
                      (try simp only [List.getElem_toArray, List.getElem_cons_zero, List.getElem_cons_succ, Act.put, List.setIfInBounds_toArray, List.set_cons_zero, List.set_cons_succ])
                      refine wpAnyH_take (i := 10) (oi := _) (v := ?v10) rfl (by kernel_rfl) (by kernel_rfl) (by kernel_rfl) (fun _ _ _ h => h) (Or.inl ⟨by rfl, ?hy10⟩) (by assumption) ?rest10
                      case hy10 => (intro w hSw; (try dsimp only at hSw); go_simp; (try with_reducible rfl))
                      (try simp only [List.getElem_toArray, List.getElem_cons_zero, List.getElem_cons_succ, Act.put, List.setIfInBounds_toArray, List.set_cons_zero, List.set_cons_succ])
                      refine wpAnyH_take (i := 11) (oi := _) (v := ?v11) rfl (by kernel_rfl) (by kernel_rfl) (by kernel_rfl) (fun _ _ _ h => h) (Or.inl ⟨by rfl, ?hy11⟩) (by assumption) ?rest11
                      case hy11 => (intro w hSw; (try dsimp only at hSw); go_simp; (try with_reducible rfl))
                      (try simp only [List.getElem_toArray, List.getElem_cons_zero, List.getElem_cons_succ, Act.put, List.setIfInBounds_toArray, List.set_cons_zero, List.set_cons_succ])
                      refine wpAnyH_take (i := 12) (oi := _) (v := ?v12) rfl (by kernel_rfl) (by kernel_rfl) (by kernel_rfl) (fun _ _ _ h => h) (Or.inl ⟨by rfl, ?hy12⟩) (by assumption) ?rest12
                      case hy12 => (intro w hSw; (try dsimp only at hSw); go_simp; (try with_reducible rfl))
                      (try simp only [List.getElem_toArray, List.getElem_cons_zero, List.getElem_cons_succ, Act.put, List.setIfInBounds_toArray, List.set_cons_zero, List.set_cons_succ])
                      refine wpAnyH_take (i := 13) (oi := _) (v := ?v13) rfl (by kernel_rfl) (by kernel_rfl) (by kernel_rfl) (fun _ _ _ h => h) (Or.inl ⟨by rfl, ?hy13⟩) (by assumption) ?rest13
                      case hy13 => (intro w hSw; (try dsimp only at hSw); go_simp; (try with_reducible rfl))
                      (try simp only [List.getElem_toArray, List.getElem_cons_zero, List.getElem_cons_succ, Act.put, List.setIfInBounds_toArray, List.set_cons_zero, List.set_cons_succ])
                      refine wpAnyH_take (i := 14) (oi := _) (v := ?v14) rfl (by kernel_rfl) (by kernel_rfl) (by kernel_rfl) (fun _ _ _ h => h) (Or.inl ⟨by rfl, ?hy14⟩) (by assumption) ?rest14
                      case hy14 => (intro w hSw; (try dsimp only at hSw); go_simp; (try with_reducible rfl))
                      (try simp only [List.getElem_toArray, List.getElem_cons_zero, List.getElem_cons_succ, Act.put, List.setIfInBounds_toArray, List.set_cons_zero, List.set_cons_succ])
                      refine wpAnyH_take (i := 15) (oi := _) (v := ?v15) rfl (by kernel_rfl) (by kernel_rfl) (by kernel_rfl) (fun _ _ _ h => h) (Or.inl ⟨by rfl, ?hy15⟩) (by assumption) ?rest15
                      case hy15 => (intro w hSw; (try dsimp only at hSw); go_simp; (try with_reducible rfl))
                      (try simp only [List.getElem_toArray, List.getElem_cons_zero, List.getElem_cons_succ, Act.put, List.setIfInBounds_toArray, List.set_cons_zero, List.set_cons_succ])
                      refine wpAnyH_take (i := 16) (oi := _) (v := ?v16) rfl (by kernel_rfl) (by kernel_rfl) (by kernel_rfl) (fun _ _ _ h => h) (Or.inl ⟨by rfl, ?hy16⟩) (by assumption) ?rest16
                      case hy16 => (intro w hSw; (try dsimp only at hSw); go_simp; (try with_reducible rfl))
                      (try simp only [List.getElem_toArray, List.getElem_cons_zero, List.getElem_cons_succ, Act.put, List.setIfInBounds_toArray, List.set_cons_zero, List.set_cons_succ])
                      refine wpAnyH_take (i := 17) (oi := _) (v := ?v17) rfl (by kernel_rfl) (by kernel_rfl) (by kernel_rfl) (fun _ _ _ h => h) (Or.inl ⟨by rfl, ?hy17⟩) (by assumption) ?rest17
                      case hy17 => (intro w hSw; (try dsimp only at hSw); go_simp; (try with_reducible rfl))
                      (try simp only [List.getElem_toArray, List.getElem_cons_zero, List.getElem_cons_succ, Act.put, List.setIfInBounds_toArray, List.set_cons_zero, List.set_cons_succ])
                      refine wpAnyH_take (i := 23) (oi := _) (v := ?v23) rfl (by kernel_rfl) (by kernel_rfl) (by kernel_rfl) (fun _ _ _ h => h) (Or.inl ⟨by rfl, ?hy23⟩) (by assumption) ?rest23
                      case hy23 => (intro w hSw; (try dsimp only at hSw); go_simp; (try with_reducible rfl))
                      (try simp only [List.getElem_toArray, List.getElem_cons_zero, List.getElem_cons_succ, Act.put, List.setIfInBounds_toArray, List.set_cons_zero, List.set_cons_succ])
                      refine wpAnyH_take (i := 24) (oi := _) (v := ?v24) rfl (by kernel_rfl) (by kernel_rfl) (by kernel_rfl) (fun _ _ _ h => h) (Or.inl ⟨by rfl, ?hy24⟩) (by assumption) ?rest24
                      case hy24 => (intro w hSw; (try dsimp only at hSw); go_simp; (try with_reducible rfl))
                      (try simp only [List.getElem_toArray, List.getElem_cons_zero, List.getElem_cons_succ, Act.put, List.setIfInBounds_toArray, List.set_cons_zero, List.set_cons_succ])
                      refine wpAnyH_ready (rs := [18]) (by kernel_rfl) (by simp) ?_
                      refine AllReadyH.cons (o := _) rfl (fun K hK => ?_) AllReadyH.nil
                      go_simp
                      refine (HT.out wr.drew hC).mono ?_
                      rintro e w2 ⟨rfl, hT⟩
                      have t0 := hT.outer 0 (Nat.le_refl _) (Nat.zero_le _)
                      have t1 := hT.rows 0 (Nat.le_refl _) (Nat.zero_le _) 0 (Nat.zero_le _)
                      rw [HD0.out] at t1
                      rw [Nat.sub_zero] at t0 t1
                      have hB2 := hT.bel
                      have d1 := (hB2.cell (p := a.add i) (by rw [add_block]; exact hab')).trans c1
                      have d2 := (hB2.cell (p := a.add k) (by rw [add_block]; exact hab')).trans c2
                      try go_wp2_with fail
                      refine hK.out _ _ ?_ (fun hHeld => ?_)
                      · exact ⟨d1, d2⟩
                      clear hK K
                      (try simp only [List.getElem_toArray, List.getElem_cons_zero, List.getElem_cons_succ, Act.put, List.setIfInBounds_toArray, List.set_cons_zero, List.set_cons_succ])
                      refine wpAnyH_take (i := 19) (oi := _) (v := ?v19) rfl (by kernel_rfl) (by kernel_rfl) (by kernel_rfl) (fun _ _ _ h => h) (Or.inl ⟨by rfl, ?hy19⟩) (by assumption) ?rest19
                      case hy19 => (intro w hSw; (try dsimp only at hSw); go_simp; (try with_reducible rfl))
                      (try simp only [List.getElem_toArray, List.getElem_cons_zero, List.getElem_cons_succ, Act.put, List.setIfInBounds_toArray, List.set_cons_zero, List.set_cons_succ])
                      refine wpAnyH_ready (rs := [20]) (by kernel_rfl) (by simp) ?_
                      refine AllReadyH.cons (o := _) rfl (fun K hK => ?_) AllReadyH.nil
                      go_simp
                      refine hK.out _ _ ?_ (fun hHeld => ?_)
                      · exact ⟨d1, d2⟩
                      clear hK K
                      (try simp only [List.getElem_toArray, List.getElem_cons_zero, List.getElem_cons_succ, Act.put, List.setIfInBounds_toArray, List.set_cons_zero, List.set_cons_succ])
                      refine wpAnyH_take (i := 21) (oi := _) (v := ?v21) rfl (by kernel_rfl) (by kernel_rfl) (by kernel_rfl) (fun _ _ _ h => h) (Or.inl ⟨by rfl, ?hy21⟩) (by assumption) ?rest21
                      case hy21 => (intro w hSw; (try dsimp only at hSw); go_simp; (try with_reducible rfl))
                      (try simp only [List.getElem_toArray, List.getElem_cons_zero, List.getElem_cons_succ, Act.put, List.setIfInBounds_toArray, List.set_cons_zero, List.set_cons_succ])
                      refine wpAnyH_ready (rs := [22]) (by kernel_rfl) (by simp) ?_
                      refine AllReadyH.cons (o := _) rfl (fun K hK => ?_) AllReadyH.nil
                      go_simp
                      refine hK.out _ _ ?_ (fun hHeld => ?_)
                      · exact ⟨d1, d2⟩
                      clear hK K
                      (try simp only [List.getElem_toArray, List.getElem_cons_zero, List.getElem_cons_succ, Act.put, List.setIfInBounds_toArray, List.set_cons_zero, List.set_cons_succ])
                      refine wpAnyH_take (i := 25) (oi := _) (v := ?v25) rfl (by kernel_rfl) (by kernel_rfl) (by kernel_rfl) (fun _ _ _ h => h) (Or.inl ⟨by rfl, ?hy25⟩) (by assumption) ?rest25
                      case hy25 => (intro w hSw; (try dsimp only at hSw); go_simp; (try with_reducible rfl))
                      (try simp only [List.getElem_toArray, List.getElem_cons_zero, List.getElem_cons_succ, Act.put, List.setIfInBounds_toArray, List.set_cons_zero, List.set_cons_succ])
                      refine wpAnyH_take (i := 26) (oi := _) (v := ?v26) rfl (by kernel_rfl) (by kernel_rfl) (by kernel_rfl) (fun _ _ _ h => h) (Or.inl ⟨by rfl, ?hy26⟩) (by assumption) ?rest26
                      case hy26 => (intro w hSw; (try dsimp only at hSw); go_simp; (try with_reducible rfl))
                      (try simp only [List.getElem_toArray, List.getElem_cons_zero, List.getElem_cons_succ, Act.put, List.setIfInBounds_toArray, List.set_cons_zero, List.set_cons_succ])
                      refine wpAnyH_done (by kernel_rfl) ?_ _
                      refine NoPanic.normal ?_
                      -- END REGION
                      have hB4 := hBk.drew.trans (hB2.mono hCB)
                      clear hT t0 t1 hB2 d1 d2
                      by_cases hle : (D : Int) ≤ 2 * n
                      · have HF := hide (sepB_false hlt hlk (HNN.out.trans (HD.out.trans (decide_eq_true hle))))
                        go_wp2
                        go_ret2
                        exact ⟨by rw [HV.out, HF.out]; rfl, by first | exact hB4 | (rw [hB]; exact hB4)⟩
                      · have HN := hide (HD.out.trans (decide_eq_false hle))
                        go_wp2
                        go_roundw
                        case rel =>
                          refine ⟨k + 1, by go_num, hlk, hide fun k' hk' h => ?_, hB4⟩
                          rcases Nat.lt_or_ge k' k with h' | h'
                          · exact hK.out k' hk' h'
                          · obtain rfl : k' = k := by omega
                            exact HNN.out.trans HN.out
                        case measure => simp [intOf]; omega
                  · have hkd : decide (k < i) = false := decide_eq_false hlk
                    obtain rfl : k = i := by omega
                    go_wp2
                    go_roundw
                    case rel =>
                      refine ⟨k + 1, by go_num, hlt, hide fun i' k' hi' hk' h => ?_, hBk⟩
                      rcases Nat.lt_or_ge i' k with h' | h'
                      · exact hI.out i' k' hi' hk' h'
                      · obtain rfl : i' = k := by omega
                        exact hK.out k' hk' hk'
                    case measure => simp [intOf]; omega
              · obtain rfl : i = xs.length := by omega
                have HS := hide (sepB_true (n := n) fun i' k' hi' hk' => hI.out i' k' hi' hk' hi')
                go_wp2
                go_ret2
                exact ⟨by rw [HV.out, HS.out]; rfl, by first | exact hBi | (rw [hB]; exact hBi)⟩
end Go.Proofs.Ytmajalpmbppkpaa
