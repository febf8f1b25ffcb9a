/- grooveref47.deletions, Deletions: their contracts. -/
import Derived.Test.YtmajalpmbppkpaaAdd
import Derived.Test.YtmajalpmbppkpaaLetP
set_option linter.unusedVariables false
namespace Go.Proofs.Ytmajalpmbppkpaa
open Go.RowKit
/-- the deletions at offsets below k -/
def delsTo (s : ByteArray) (k : Nat) (z : ByteArray) : Prop := ∃ j, j < k ∧ z = delB s j
set_option maxRecDepth 100000 in
set_option maxHeartbeats 2000000 in
theorem rdels_any (s : ByteArray) (hs : s.size ≤ 65536) (w : World) :
    Calls Try.prog 81 #[.string s] w fun e w' => ∃ v ys, e = .returned v ∧ Row1 w' w.heap.size v ys ∧ DelRes s ys ∧ ys.length ≤ s.size ∧ Below w.heap.size w w' := by
  obtain ⟨B, hB⟩ : ∃ B, w.heap.size = B := ⟨_, rfl⟩
  have hr0 : Row1 (w.alloc (Obj.cells #[] 9)) B (.slice (some ⟨B, 0, none⟩) 0 0) [] := ⟨Strs.empty_ hB (Nat.le_refl _), by simp⟩
  have hB0 := (Below.refl B w).alloc (by omega) (Obj.cells #[] 9)
  go_enter Try.func81, Try.ntmps81
  go_wp2
  go_loopw [3, 4] (fun v iv wr => ∃ (v0 : Value) (k : Nat) (ys : List ByteArray), v0 = v ∧ iv = .int .i64 k ∧ k ≤ s.size ∧ Row1 wr B v0 ys ∧ ys.length ≤ k ∧ Hid (ys.Pairwise (fun a b => a.data.toList < b.data.toList) ∧ ∀ z, z ∈ ys ↔ delsTo s k z) ∧ Below B w wr) (fun _ iv _ => s.size - (intOf iv).toNat)
  case atStart => exact ⟨_, 0, [], rfl, rfl, Nat.zero_le _, hr0, Nat.le_refl _, hide ⟨List.Pairwise.nil, fun z => by simp [delsTo]⟩, hB0⟩
  case round =>
    obtain ⟨v0, k, ys, rfl, rfl, hk, hrow, hyl, hY, hBw⟩ := hrel
    clear hr0 hB0
    by_cases hlt : k < s.size
    · have hk0 : (0 : Int) ≤ (k : Int) := by omega
      have hk1 : (k : Int) < (s.size : Int) := by omega
      have q1 : IntKind.i64.wrap ((k : Int) + 1) = (k : Int) + 1 := IntWalk.i64_in _ (by omega)
      have q2 : (0 : Int) ≤ (k : Int) + 1 := by omega
      have q3 : ((k : Int) + 1).toNat = k + 1 := by omega
      have q4 : (k : Int) + 1 ≤ (s.size : Int) := by omega
      have q5 : ¬ 9223372036854775807 < k + (s.size - (k + 1)) := by omega
      have HA := hide (fun W (hW : Row1 W B v0 ys) (hb : B ≤ W.heap.size) => add_any B v0 ys (delB s k) W hW (by omega) hb hY.out.1)
      have hBs : B ≤ wr.heap.size := by have := hBw.size; omega
      have HR := hide hrow
      clear hrow
      unfold delB at HA
      go_wp2_with fail
      go_region_held3 (fun _ => True) (exact trivial) ((go_at_call 82; refine (HA.out wr.drew HR.out hBs).mono ?_; rintro e w2 ⟨v2, ys2, rfl, hrow2, hres2, hB2⟩))
      have hlen2 := hres2.2.2
      have HR2 := hide (show (ys2.Pairwise (fun a b => a.data.toList < b.data.toList) ∧ ∀ z, z ∈ ys2 ↔ delsTo s (k + 1) z) from ⟨hres2.1, fun z => by
        rw [hres2.2.1 z, hY.out.2 z]
        unfold delsTo delB
        constructor
        · rintro (⟨j, hj, rfl⟩ | rfl)
          · exact ⟨j, by omega, rfl⟩
          · exact ⟨k, by omega, rfl⟩
        · rintro ⟨j, hj, rfl⟩
          rcases Nat.lt_or_ge j k with h | h
          · exact .inl ⟨j, h, rfl⟩
          · obtain rfl : j = k := by omega
            exact .inr rfl⟩)
      clear hres2 HA HR
      go_wp2
      go_roundw
      case rel => exact ⟨v2, k + 1, ys2, rfl, by go_num, hlt, hrow2, by omega, HR2, hBw.drew.trans (hB2.mono hBs)⟩
      case measure => simp [intOf]; omega
    · obtain rfl : k = s.size := by omega
      go_wp2
      go_ret
      refine ⟨_, ys, rfl, by rw [hB]; exact hrow, ⟨hY.out.1, fun z => ?_⟩, hyl, by rw [hB]; exact hBw⟩
      rw [hY.out.2, dels_mem]
      unfold delsTo
      constructor
      · rintro ⟨j, hj, rfl⟩
        exact ⟨j, by simpa using hj, by rw [delB_list]; rfl⟩
      · rintro ⟨j, hj, e⟩
        exact ⟨j, by simpa using hj, ba_ext (by rw [e, delB_list]; rfl)⟩
end Go.Proofs.Ytmajalpmbppkpaa
