/- tenengolts.Runs and grooveref48.Runs: any string. -/
import Derived.Test.YtijeogengbphdaaRun
import Derived.Test.YtijeogengbphdaaSyn
import Derived.BigQuiet
set_option linter.unusedVariables false
namespace Go.Proofs.Ytijeogengbphdaa
open Go.RowKit
def runV (l : List UInt8) : Int × Int := if chk 2 l = 0 then ((cntL l l.length : Nat), 0) else (0, chk 2 l)
theorem chk16_of2 {l : List UInt8} (h : chk 2 l = 0) : chk 16 l = 0 := by
  obtain ⟨h1, h2⟩ := bin_of_chk h
  unfold chk
  rw [if_neg (by decide), if_neg (by omega), if_pos]
  rw [List.all_eq_true]
  intro c hc
  rcases h1 c hc with h | h <;> subst h <;> decide
set_option maxRecDepth 100000 in
theorem tRuns_any (s : ByteArray) (w : World) :
    Calls Try.prog 23 #[.string s] w fun e w' => e = .returned (.tuple #[.int .i64 (runV s.data.toList).1, .int .i64 (runV s.data.toList).2]) ∧ Below w.heap.size w w' := by
  by_cases hc : chk 2 s.data.toList = 0
  · have hz : s.size ≤ 70000 := by have := (bin_of_chk hc).2; rw [size_data] at this; omega
    have h := runs_any s hz hc (chk16_of2 hc) w
    have e : runV s.data.toList = (((cntL s.data.toList s.size : Nat) : Int), 0) := by unfold runV; rw [if_pos hc, size_data]
    rw [e]
    exact h
  · have HR := hide (show runV s.data.toList = (0, chk 2 s.data.toList) by unfold runV; rw [if_neg hc])
    obtain ⟨c, hcc⟩ : ∃ c, c = chk 2 s.data.toList := ⟨_, rfl⟩
    rw [← hcc] at hc HR
    have HCC := hide hcc
    have hcb : (c != 0) = true := by simpa using hc
    clear hc hcc
    go_enter Try.func23, Try.ntmps23
    go_wp2_with (go_at_call 40; refine (wcheck_any _ _ _).mono ?_; rintro e w' ⟨rfl, q, rfl⟩; rw [← HCC.out])
    go_ret2
    exact ⟨by rw [HR.out]; rfl, belowN (Below.refl _ _) _⟩
set_option maxRecDepth 100000 in
set_option maxHeartbeats 1000000 in
theorem rRuns_any (s : ByteArray) (w : World) :
    Calls Try.prog 24 #[.string s] w fun e w' => e = .returned (.tuple #[.int .i64 (runV s.data.toList).1, .int .i64 (runV s.data.toList).2]) ∧ Below w.heap.size w w' := by
  by_cases hc : chk 2 s.data.toList = 0
  · have hz : s.size ≤ 70000 := by have := (bin_of_chk hc).2; rw [size_data] at this; omega
    have HR := hide (show runV s.data.toList = (((cntL s.data.toList s.size : Nat) : Int), 0) by unfold runV; rw [if_pos hc, size_data])
    have HC := hide hc
    clear hc
    go_enter Try.func24, Try.ntmps24
    go_wp2_with (go_at_call 44; refine (rcheck_any _ _ _).mono ?_; rintro e w' ⟨rfl, rfl⟩; rw [HC.out])
    go_loopw [5, 6] (fun cv iv wr => ∃ k : Nat, iv = .int .i64 k ∧ cv = .int .i64 ((cntL s.data.toList k : Nat) : Int) ∧ k ≤ s.size ∧ ∃ q, wr = w.drewN q) (fun _ iv _ => s.size - (intOf iv).toNat)
    case atStart => exact ⟨0, rfl, rfl, Nat.zero_le _, 0, rfl⟩
    case round =>
      obtain ⟨k, rfl, rfl, hk, q, rfl⟩ := hrel
      by_cases hlt : k < s.size
      · have hcs := cntL_succ s.data.toList k
        have hcl : cntL s.data.toList k ≤ k := by
          unfold cntL
          exact Nat.le_trans (List.length_filter_le _ _) (by rw [List.length_range]; exact Nat.le_refl _)
        by_cases hk0 : k = 0
        · subst hk0
          have h1 : runL s.data.toList 0 = true := by rfl
          rw [h1, if_pos rfl] at hcs
          have HS := hide hcs
          clear hcs h1
          go_wp2_with fail
          go_quiet (fail)
          go_wp2
          go_roundw
          case rel => exact ⟨1, rfl, by rw [show cntL s.data.toList 1 = _ from HS.out]; rfl, hlt, _, rfl⟩
          case measure => simp [intOf]; omega
        · have h0 : ((k : Int) == 0) = false := by rw [beq_eq_false_iff_ne]; omega
          have hkl : k < s.data.toList.length := by rw [size_data]; exact hlt
          have hrl := runL_ne hkl (by omega)
          have hi0 : (0 : Int) ≤ (k : Int) - 1 := by omega
          have hi1 : (k : Int) - 1 < (s.size : Int) := by omega
          have hi2 : (k : Int) - 1 = ((k - 1 : Nat) : Int) := by omega
          have hkm : k - 1 < s.size := by omega
          have hw : IntKind.i64.wrap ((k : Int) - 1) = (k : Int) - 1 := IntWalk.i64_in _ (by omega)
          have hk1 : (0 : Int) ≤ (k : Int) := by omega
          have hk2 : (k : Int) < (s.size : Int) := by omega
          have e1 : s.data.toList[k] = s[k] := rfl
          have e2 : s.data.toList[k - 1]'(by omega) = s[k - 1] := rfl
          rw [e1, e2] at hrl
          by_cases hne : s[k] = s[k - 1]
          · have hb : (((s[k]'hlt).toNat : Int) != ((s[k - 1]'hkm).toNat : Int)) = false := by rw [hne]; simp
            rw [hrl, if_neg (by simp [hne])] at hcs
            have HS := hide hcs
            clear hcs hrl hne e1 e2
            go_wp2_with fail
            go_quiet (fail)
            go_wp2
            go_roundw
            case rel => exact ⟨k + 1, by go_num, by rw [HS.out]; rfl, hlt, _, rfl⟩
            case measure => simp [intOf]; omega
          · have hb : (((s[k]'hlt).toNat : Int) != ((s[k - 1]'hkm).toNat : Int)) = true := by
              rw [bne_iff_ne]
              intro h
              exact hne (UInt8.toNat_inj.1 (by omega))
            rw [hrl, if_pos (by simp [hne])] at hcs
            have HS := hide hcs
            clear hcs hrl hne e1 e2
            go_wp2_with fail
            go_quiet (fail)
            go_wp2
            go_roundw
            case rel => exact ⟨k + 1, by go_num, by rw [HS.out]; rfl, hlt, _, rfl⟩
            case measure => simp [intOf]; omega
      · obtain rfl : k = s.size := by omega
        go_wp2
        go_ret2
        exact ⟨by rw [HR.out]; rfl, belowN (Below.refl _ _) _⟩
  · have HR := hide (show runV s.data.toList = (0, chk 2 s.data.toList) by unfold runV; rw [if_neg hc])
    obtain ⟨c, hcc⟩ : ∃ c, c = chk 2 s.data.toList := ⟨_, rfl⟩
    rw [← hcc] at hc HR
    have HCC := hide hcc
    have hcb : (c != 0) = true := by simpa using hc
    clear hc hcc
    go_enter Try.func24, Try.ntmps24
    go_wp2_with (go_at_call 44; refine (rcheck_any _ _ _).mono ?_; rintro e w' ⟨rfl, rfl⟩; rw [← HCC.out])
    go_ret2
    exact ⟨by rw [HR.out]; rfl, Below.refl _ _⟩
end Go.Proofs.Ytijeogengbphdaa
