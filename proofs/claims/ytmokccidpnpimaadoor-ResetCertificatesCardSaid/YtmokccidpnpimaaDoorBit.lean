/- math/bits.TrailingZeros64, OnesCount64 at sets of up to six states; single sets. -/
import Derived.Test.YtmokccidpnpimaaDoorChkR
set_option linter.unusedVariables false
namespace Go.Proofs.YtmokccidpnpimaaDoor
open Go.RowKit
/-- the table of math/bits -/
def tabZ : List Nat := [0, 1, 56, 2, 57, 49, 28, 3, 61, 58, 42, 50, 38, 29, 17, 4, 62, 47, 59, 36, 45, 43, 51, 22, 53, 39, 33, 30, 24, 18, 12, 5, 63, 55, 48, 27, 60, 41, 37, 16, 46, 35, 44, 21, 52, 32, 23, 11, 54, 26, 40, 15, 34, 20, 31, 10, 25, 14, 19, 9, 13, 8, 7, 6]
/-- the table lies -/
def TabZ (w : World) : Prop := 1 < w.heap.size ∧ ∀ k (hk : k < 64), w.cell? ⟨1, k, none⟩ = some (.int .u8 ((tabZ.getD k 0 : Nat) : Int))
theorem TabZ.below {w w' : World} (h : TabZ w) (hB : Below w.heap.size w w') : TabZ w' :=
  ⟨Nat.lt_of_lt_of_le h.1 hB.size, fun k hk => (hB.cell (p := ⟨1, k, none⟩) h.1).trans (h.2 k hk)⟩
/-- the least state of a set -/
def tz (S : Nat) : Nat := if S.testBit 0 then 0 else if S.testBit 1 then 1 else if S.testBit 2 then 2 else if S.testBit 3 then 3 else if S.testBit 4 then 4 else 5
theorem tz_lt (S : Nat) : tz S < 64 := by
  unfold tz
  repeat' split
  all_goals omega
theorem tz_facts : ∀ s : Fin 64, 0 < s.val →
    (0 ≤ IntKind.u64.wrap (bits BinOp.and IntKind.u64 ((s.val : Nat) : Int) (IntKind.u64.wrap (-((s.val : Nat) : Int))) * 285870213051353865) / 288230376151711744)
    ∧ (IntKind.u64.wrap (bits BinOp.and IntKind.u64 ((s.val : Nat) : Int) (IntKind.u64.wrap (-((s.val : Nat) : Int))) * 285870213051353865) / 288230376151711744 < 64)
    ∧ tabZ.getD (IntKind.u64.wrap (bits BinOp.and IntKind.u64 ((s.val : Nat) : Int) (IntKind.u64.wrap (-((s.val : Nat) : Int))) * 285870213051353865) / 288230376151711744).toNat 0 = tz s.val := by decide +kernel
set_option maxRecDepth 100000 in
theorem bTZ64_any (S : Nat) (w : World) (h0 : 0 < S) (hS : S < 64) (hT : TabZ w) :
    Calls Tryd.prog 67 #[.int .u64 S] w fun e w' => e = .returned (.int .i64 (tz S)) ∧ w' = w := by
  have hz : ((S : Int) == 0) = false := by rw [beq_eq_false_iff_ne]; omega
  obtain ⟨f1, f2, f3⟩ := tz_facts ⟨S, hS⟩ h0
  have hc := hT.2 _ (show (IntKind.u64.wrap (bits BinOp.and IntKind.u64 (S : Int) (IntKind.u64.wrap (-(S : Int))) * 285870213051353865) / 288230376151711744).toNat < 64 by dsimp only at f1 f2; omega)
  dsimp only at f1 f2 f3
  rw [f3] at hc
  have ht : (0 : Int) ≤ (tz S : Int) ∧ (tz S : Int) < 64 := by have : tz S < 64 := tz_lt S; omega
  clear f3 hT
  go_enter Tryd.func67, Tryd.ntmps67
  go_wp2
  go_ret
  exact ⟨rfl, rfl⟩
set_option maxRecDepth 100000 in
theorem bTZ_any (S : Nat) (w : World) (h0 : 0 < S) (hS : S < 64) (hT : TabZ w) :
    Calls Tryd.prog 50 #[.int .u64 S] w fun e w' => e = .returned (.int .i64 (tz S)) ∧ w' = w := by
  have HT := hide (bTZ64_any S w h0 hS hT)
  clear hT
  go_enter Tryd.func50, Tryd.ntmps50
  go_wp2_with (go_at_call 67; refine HT.out.mono ?_; rintro e w' ⟨rfl, rfl⟩)
  go_ret
  exact ⟨rfl, rfl⟩
set_option maxRecDepth 100000 in
theorem bOC64_any (S : Nat) (w : World) (hS : S < 64) :
    Calls Tryd.prog 84 #[.int .u64 S] w fun e w' => ∃ z : Int, e = .returned (.int .i64 z) ∧ w' = w ∧ (z == 1) = sglB S := by
  go_enter Tryd.func84, Tryd.ntmps84
  go_wp2
  go_ret
  refine ⟨_, rfl, rfl, ?_⟩
  clear w
  revert S
  decide +kernel
set_option maxRecDepth 100000 in
theorem bOC_any (S : Nat) (w : World) (hS : S < 64) :
    Calls Tryd.prog 64 #[.int .u64 S] w fun e w' => ∃ z : Int, e = .returned (.int .i64 z) ∧ w' = w ∧ (z == 1) = sglB S := by
  have HT := hide (bOC64_any S w hS)
  go_enter Tryd.func64, Tryd.ntmps64
  go_wp2_with (go_at_call 84; refine HT.out.mono ?_; rintro e w' ⟨z, rfl, rfl, hz⟩)
  go_ret
  exact ⟨z, rfl, rfl, hz⟩
set_option maxRecDepth 100000 in
theorem zsingle_any (S : Nat) (w : World) (hS : S < 64) :
    Calls Tryd.prog 48 #[.int .i64 S] w fun e w' => e = .returned (.bool (sglB S)) ∧ w' = w := by
  have HT := hide (bOC_any S w hS)
  go_enter Tryd.func48, Tryd.ntmps48
  go_wp2_with (go_at_call 64; refine HT.out.mono ?_; rintro e w' ⟨z, rfl, rfl, hz⟩)
  go_ret
  exact ⟨by rw [← hz]; rfl, rfl⟩
theorem rsgl : ∀ S, S < 64 → 0 < S → (bits BinOp.and IntKind.i64 ((S : Nat) : Int) ((S : Int) - 1) == 0) = sglB S := by decide +kernel
set_option maxRecDepth 100000 in
theorem zrsingle_any (S : Nat) (w : World) (hS : S < 64) :
    Calls Tryd.prog 44 #[.int .i64 S] w fun e w' => e = .returned (.bool (sglB S)) ∧ w' = w := by
  rcases Nat.eq_zero_or_pos S with rfl | h0
  · go_enter Tryd.func44, Tryd.ntmps44
    go_wp2
    go_ret
    exact ⟨rfl, rfl⟩
  · have hz : ((S : Int) != 0) = true := by rw [bne_iff_ne]; omega
    have hs := hide (rsgl S hS h0)
    go_enter Tryd.func44, Tryd.ntmps44
    go_wp2
    go_ret
    exact ⟨by rw [← hs.out]; rfl, rfl⟩
theorem rhas : ∀ S, S < 64 → ∀ k, k < 7 → (bits BinOp.and IntKind.i64 ((S : Nat) / 2 ^ k : Nat) 1 == 1) = S.testBit k := by decide +kernel
set_option maxRecDepth 100000 in
theorem zhas_any (S k : Nat) (w : World) (hS : S < 64) (hk : k < 7) :
    Calls Tryd.prog 52 #[.int .i64 S, .int .i64 k] w fun e w' => e = .returned (.bool (S.testBit k)) ∧ w' = w := by
  have hs := hide (rhas S hS k hk)
  go_enter Tryd.func52, Tryd.ntmps52
  go_wp2
  go_ret
  trace_state
  exact ⟨by rw [← hs.out]; rfl, rfl⟩
end Go.Proofs.YtmokccidpnpimaaDoor
