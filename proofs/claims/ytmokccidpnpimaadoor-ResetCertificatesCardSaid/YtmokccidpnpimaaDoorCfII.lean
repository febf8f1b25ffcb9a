/- slices.ContainsFunc at lists of lists of ints, with 'longer than 70' (the closures of two laws). -/
import Derived.Test.YtmokccidpnpimaaDoorChkR
set_option linter.unusedVariables false
namespace Go.Proofs.YtmokccidpnpimaaDoor
open Go.RowKit
def longB (x : List Int) : Bool := decide (70 < x.length)

set_option maxRecDepth 100000 in
theorem lCertsf_any (D : Option Addr) (n c : Nat) (w : World) :
    Calls Tryd.prog 13 #[.slice D n c] w fun e w' => e = .returned (.bool (decide (70 < n))) ∧ w = w' := by
  have e1 : decide ((70 : Int) < (n : Int)) = decide (70 < n) := by simp only [decide_eq_decide]; omega
  cases h : decide (70 < n) with
  | true =>
    rw [h] at e1
    go_enter Tryd.func13, Tryd.ntmps13
    go_wp2
    go_ret
    exact ⟨rfl, rfl⟩
  | false =>
    rw [h] at e1
    go_enter Tryd.func13, Tryd.ntmps13
    go_wp2
    go_ret
    exact ⟨rfl, rfl⟩
set_option maxRecDepth 100000 in
set_option maxHeartbeats 1000000 in
theorem ifIICerts_any (ds : List (List Int)) (D : Option Addr) (cD : Nat) (w : World) (hr : RowD w D ds) (hb : ds.length ≤ 9223372036854775807) :
    Calls Tryd.prog 35 #[.slice D ds.length cD, .func (.func 13) #[] #[]] w fun e w' => (∃ z : Int, e = .returned (.int .i64 z) ∧ decide (0 ≤ z) = ds.any longB) ∧ w = w' := by
  have HR := hide hr
  clear hr
  go_enter Tryd.func35, Tryd.ntmps35
  go_wp2
  go_loopw [8] (fun iv wr => ∃ i : Nat, iv = .int .i64 i ∧ i ≤ ds.length ∧ Hid (∀ j (hj : j < ds.length), j < i → longB ds[j] = false) ∧ wr = w) (fun iv _ => ds.length - (intOf iv).toNat)
  case atStart => exact ⟨0, rfl, Nat.zero_le _, hide fun j _ h => absurd h (by omega), rfl⟩
  case round =>
    obtain ⟨i, rfl, hi, hJ, rfl⟩ := hrel
    by_cases hlt : i < ds.length
    · obtain ⟨b, o, rfl, hbl, hcell⟩ := HR.out (by omega)
      obtain ⟨E, cE, hc, _⟩ := hcell i hlt
      obtain ⟨n, hn⟩ : ∃ n, ds[i].length = n := ⟨_, rfl⟩
      have HZ := hide (show longB ds[i] = decide (70 < n) by unfold longB; rw [hn])
      rw [hn] at hc
      have HC := hide hcell
      have hi0 : (0 : Int) ≤ (i : Int) := by omega
      have hi1 : (i : Int) < (ds.length : Int) := by omega
      have HF := hide (fun W => lCertsf_any E n cE W)
      clear hn hcell
      cases hbad : decide (70 < n) with
      | true =>
        rw [hbad] at HF HZ
        have HA := hide (show ds.any longB = true by
          rw [List.any_eq_true]
          exact ⟨ds[i], List.getElem_mem _, HZ.out⟩)
        clear hbad
        go_wp2_with (go_at_call 13; refine (HF.out _).mono ?_; rintro e w' ⟨rfl, rfl⟩)
        go_ret
        exact ⟨⟨_, rfl, by rw [HA.out]; exact decide_eq_true hi0⟩, rfl⟩
      | false =>
        rw [hbad] at HF HZ
        have HJ2 := hide (show ∀ j (hj : j < ds.length), j < i + 1 → longB ds[j] = false from fun j hj hji => by
          rcases Nat.lt_or_ge j i with h | h
          · exact hJ.out j hj h
          · obtain rfl : j = i := by omega
            exact HZ.out)
        clear hbad hJ
        go_wp2_with (go_at_call 13; refine (HF.out _).mono ?_; rintro e w' ⟨rfl, rfl⟩)
        go_roundw
        case rel => exact ⟨i + 1, by go_num, hlt, HJ2, by first | exact trivial | rfl⟩
        case measure => simp [intOf]; omega
    · obtain rfl : i = ds.length := by omega
      have HA := hide (show ds.any longB = false by
        rw [List.any_eq_false]
        intro x hx
        obtain ⟨j, hj, rfl⟩ := List.getElem_of_mem hx
        rw [hJ.out j hj hj]; decide)
      go_wp2
      go_ret
      exact ⟨⟨-1, rfl, by rw [HA.out]; decide⟩, rfl⟩
set_option maxRecDepth 100000 in
theorem cfIICerts_any (ds : List (List Int)) (D : Option Addr) (cD : Nat) (w : World) (hr : RowD w D ds) (hb : ds.length ≤ 9223372036854775807) :
    Calls Tryd.prog 12 #[.slice D ds.length cD, .func (.func 13) #[] #[]] w fun e w' => e = .returned (.bool (ds.any longB)) ∧ w = w' := by
  have HI := hide (ifIICerts_any ds D cD w hr hb)
  clear hr
  go_enter Tryd.func12, Tryd.ntmps12
  go_wp2_with fail
  refine HI.out.mono ?_
  rintro e w1 ⟨⟨z, rfl, hz⟩, rfl⟩
  have HZ := hide hz
  clear hz
  go_wp2
  go_ret
  exact ⟨by rw [← HZ.out]; rfl, rfl⟩

set_option maxRecDepth 100000 in
theorem lProvesf_any (D : Option Addr) (n c : Nat) (w : World) :
    Calls Tryd.prog 23 #[.slice D n c] w fun e w' => e = .returned (.bool (decide (70 < n))) ∧ w = w' := by
  have e1 : decide ((70 : Int) < (n : Int)) = decide (70 < n) := by simp only [decide_eq_decide]; omega
  cases h : decide (70 < n) with
  | true =>
    rw [h] at e1
    go_enter Tryd.func23, Tryd.ntmps23
    go_wp2
    go_ret
    exact ⟨rfl, rfl⟩
  | false =>
    rw [h] at e1
    go_enter Tryd.func23, Tryd.ntmps23
    go_wp2
    go_ret
    exact ⟨rfl, rfl⟩
set_option maxRecDepth 100000 in
set_option maxHeartbeats 1000000 in
theorem ifIIProves_any (ds : List (List Int)) (D : Option Addr) (cD : Nat) (w : World) (hr : RowD w D ds) (hb : ds.length ≤ 9223372036854775807) :
    Calls Tryd.prog 35 #[.slice D ds.length cD, .func (.func 23) #[] #[]] w fun e w' => (∃ z : Int, e = .returned (.int .i64 z) ∧ decide (0 ≤ z) = ds.any longB) ∧ w = w' := by
  have HR := hide hr
  clear hr
  go_enter Tryd.func35, Tryd.ntmps35
  go_wp2
  go_loopw [8] (fun iv wr => ∃ i : Nat, iv = .int .i64 i ∧ i ≤ ds.length ∧ Hid (∀ j (hj : j < ds.length), j < i → longB ds[j] = false) ∧ wr = w) (fun iv _ => ds.length - (intOf iv).toNat)
  case atStart => exact ⟨0, rfl, Nat.zero_le _, hide fun j _ h => absurd h (by omega), rfl⟩
  case round =>
    obtain ⟨i, rfl, hi, hJ, rfl⟩ := hrel
    by_cases hlt : i < ds.length
    · obtain ⟨b, o, rfl, hbl, hcell⟩ := HR.out (by omega)
      obtain ⟨E, cE, hc, _⟩ := hcell i hlt
      obtain ⟨n, hn⟩ : ∃ n, ds[i].length = n := ⟨_, rfl⟩
      have HZ := hide (show longB ds[i] = decide (70 < n) by unfold longB; rw [hn])
      rw [hn] at hc
      have HC := hide hcell
      have hi0 : (0 : Int) ≤ (i : Int) := by omega
      have hi1 : (i : Int) < (ds.length : Int) := by omega
      have HF := hide (fun W => lProvesf_any E n cE W)
      clear hn hcell
      cases hbad : decide (70 < n) with
      | true =>
        rw [hbad] at HF HZ
        have HA := hide (show ds.any longB = true by
          rw [List.any_eq_true]
          exact ⟨ds[i], List.getElem_mem _, HZ.out⟩)
        clear hbad
        go_wp2_with (go_at_call 23; refine (HF.out _).mono ?_; rintro e w' ⟨rfl, rfl⟩)
        go_ret
        exact ⟨⟨_, rfl, by rw [HA.out]; exact decide_eq_true hi0⟩, rfl⟩
      | false =>
        rw [hbad] at HF HZ
        have HJ2 := hide (show ∀ j (hj : j < ds.length), j < i + 1 → longB ds[j] = false from fun j hj hji => by
          rcases Nat.lt_or_ge j i with h | h
          · exact hJ.out j hj h
          · obtain rfl : j = i := by omega
            exact HZ.out)
        clear hbad hJ
        go_wp2_with (go_at_call 23; refine (HF.out _).mono ?_; rintro e w' ⟨rfl, rfl⟩)
        go_roundw
        case rel => exact ⟨i + 1, by go_num, hlt, HJ2, by first | exact trivial | rfl⟩
        case measure => simp [intOf]; omega
    · obtain rfl : i = ds.length := by omega
      have HA := hide (show ds.any longB = false by
        rw [List.any_eq_false]
        intro x hx
        obtain ⟨j, hj, rfl⟩ := List.getElem_of_mem hx
        rw [hJ.out j hj hj]; decide)
      go_wp2
      go_ret
      exact ⟨⟨-1, rfl, by rw [HA.out]; decide⟩, rfl⟩
set_option maxRecDepth 100000 in
theorem cfIIProves_any (ds : List (List Int)) (D : Option Addr) (cD : Nat) (w : World) (hr : RowD w D ds) (hb : ds.length ≤ 9223372036854775807) :
    Calls Tryd.prog 12 #[.slice D ds.length cD, .func (.func 23) #[] #[]] w fun e w' => e = .returned (.bool (ds.any longB)) ∧ w = w' := by
  have HI := hide (ifIIProves_any ds D cD w hr hb)
  clear hr
  go_enter Tryd.func12, Tryd.ntmps12
  go_wp2_with fail
  refine HI.out.mono ?_
  rintro e w1 ⟨⟨z, rfl, hz⟩, rfl⟩
  have HZ := hide hz
  clear hz
  go_wp2
  go_ret
  exact ⟨by rw [← HZ.out]; rfl, rfl⟩
end Go.Proofs.YtmokccidpnpimaaDoor
