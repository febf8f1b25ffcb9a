import Derived.Test.YtbnpjoiojhnimaaGreatDoorG17
import Derived.Test.YtbnpjoiojhnimaaGreatDoorG19
set_option linter.unusedSimpArgs false
set_option linter.unusedVariables false
/- matrix.Adjugate: its contract. -/
namespace Go.Proofs.YtbnpjoiojhnimaaGreatDoor
open Go.RowKit Go.Shelf
def adjF (n : Nat) (a : Nat → Nat → Int) : Nat → Nat → Int := fun i j => if n % 2 = 0 then -(chM n a (n - 1) i j) else chM n a (n - 1) i j
set_option maxRecDepth 100000 in
set_option maxHeartbeats 2000000 in
theorem mxAdj_any (G n : Nat) (a : Nat → Nat → Int) (w : World) (hn0 : 0 < n) (hn : n ≤ 32) (ha : ∀ i j, i < n → j < n → (a i j).natAbs ≤ 65536) (hM : Mat w G n n a) :
  Calls Tryz.prog 23 #[.slice (some ⟨G, 0, none⟩) n n] w fun e w' => ∃ G', e = .returned (.tuple #[.slice (some ⟨G', 0, none⟩) n n, .int .i64 0]) ∧ Mat w' G' n n (adjF n a) ∧ Below w.heap.size w w' := by
 have HS := hide (mxSquare_any G n a w hn0 hn hM (fun i k hi hk => Sml.of64 (by have := ha i k hi hk; omega)))
 have HC := hide (fun W (hB : Below w.heap.size w W) => mxChar_any G n a W hn0 (by omega) ha (hM.below hB (Nat.le_refl _)))
 have hsm : ∀ i k, i < n → k < n → Sml (chM n a (n - 1) i k).natAbs := fun i k hi hk => (sml_pow (k := n - 1) (by omega)).le (chM_le (by omega) ha (n - 1) i k hi hk)
 have HSM := hide hsm
 clear hM ha hsm
 have hmod : (n : Int).tmod 2 = ((n % 2 : Nat) : Int) := by rw [Int.tmod_eq_emod_of_nonneg (by omega)]; omega
 by_cases he : n % 2 = 0
 ·have hb : (((n : Int) % 2) == 0) = true := by rw [beq_iff_eq]; omega
  have HE := hide he
  clear he hmod
  go_enter Tryz.func23, Tryz.ntmps23
  go_wp2_with fail
  (with_reducible refine HS.out.mono ?_)
  rintro e w1 ⟨rfl, hB1⟩
  have HB1 := hide hB1
  clear hB1
  go_wp2_with fail
  (with_reducible refine (HC.out _ HB1.out).mono ?_)
  rintro e w2 ⟨p, G2, rfl, hM2, hB2⟩
  have HB2 := hide (HB1.out.trans (hB2.mono HB1.out.size))
  have hB3 : Below w2.heap.size w2 (w2.alloc (.cells #[.slice (some ⟨G2, 0, none⟩) n n] 36)) := (Below.refl _ w2).alloc (Nat.le_refl _) _
  have hc3 : (w2.alloc (.cells #[.slice (some ⟨G2, 0, none⟩) n n] 36)).cell? ⟨w2.heap.size, 0, none⟩ = some (.slice (some ⟨G2, 0, none⟩) n n) := cell_of_one (heap_alloc_new _ _)
  have hz3 : (w2.alloc (.cells #[.slice (some ⟨G2, 0, none⟩) n n] 36)).frozen? ⟨w2.heap.size, 0, none⟩ = false := by
   have h := heap_alloc_new w2 (.cells #[.slice (some ⟨G2, 0, none⟩) n n] 36)
   generalize w2.alloc (.cells #[.slice (some ⟨G2, 0, none⟩) n n] 36) = W at h ⊢
   simp [World.frozen?, h]
  have hM3 := hM2.below hB3 (Nat.le_refl _)
  have HT := hide (mxTable1_any 71 (.pointer (some ⟨w2.heap.size, 0, none⟩)) n n (fun i k => -(chM n a (n - 1) i k)) (w2.alloc (.cells #[.slice (some ⟨G2, 0, none⟩) n n] 36)) (by omega) (by omega) (enters_of Tryz.func71 (by kernel_rfl) rfl)
   (hide fun i k W hi hk hW => mxAdjf_any G2 n n w2.heap.size i k (chM n a (n - 1)) W hi hk (hM3.below hW (Nat.le_refl _)) ((hW.cell (p := ⟨w2.heap.size, 0, none⟩) (by simp)).trans hc3) (HSM.out i k hi hk)))
  have HB3 := hide (HB2.out.trans (hB3.mono HB2.out.size))
  clear hB2 hM2 hM3 hB3
  go_wp2_with fail
  generalize hW3 : w2.alloc (.cells #[.slice (some ⟨G2, 0, none⟩) n n] 36) = W3 at hc3 hz3 HT HB3 ⊢
  have hl3 : w2.heap.size < W3.heap.size := by rw [← hW3]; simp
  clear hW3
  (with_reducible refine HT.out.mono ?_)
  rintro e w4 ⟨G4, rfl, hM4, hB4⟩
  have hc4 := (hB4.cell (p := ⟨w2.heap.size, 0, none⟩) hl3).trans hc3
  have hz4 := (hB4.frozen (p := ⟨w2.heap.size, 0, none⟩) hl3).trans hz3
  have HM4 := hide hM4
  have HB4 := hide (HB3.out.trans (hB4.mono HB3.out.size))
  have HL := hide hl3
  have HB2s := hide HB2.out.size
  clear hM4 hB4 hc3 hz3 hl3
  go_wp2
  go_ret2
  refine ⟨G4, rfl, ?_, HB4.out.setCell HB2s.out _⟩
  have e1 : adjF n a = fun i k => -(chM n a (n - 1) i k) := by
   funext i k
   unfold adjF
   rw [if_pos HE.out]
  rw [e1]
  obtain ⟨rs, h1, h2, h3⟩ := HM4.out
  refine ⟨rs, ?_, fun i hi => (h3 i hi).1.other1 (by have := (h3 i hi).2; have := HL.out; omega) _ _⟩
  have hne : G4 ≠ w2.heap.size := by have := HL.out; omega
  unfold Heads at h1 ⊢
  rw [Below.heap_setCell _ ⟨w2.heap.size, 0, none⟩ _ G4 hne]
  exact h1
 ·have hb : (((n : Int) % 2) == 0) = false := by rw [beq_eq_false_iff_ne]; omega
  have HE := hide he
  clear he hmod
  go_enter Tryz.func23, Tryz.ntmps23
  go_wp2_with fail
  (with_reducible refine HS.out.mono ?_)
  rintro e w1 ⟨rfl, hB1⟩
  have HB1 := hide hB1
  clear hB1
  go_wp2_with fail
  (with_reducible refine (HC.out _ HB1.out).mono ?_)
  rintro e w2 ⟨p, G2, rfl, hM2, hB2⟩
  have hB3 : Below w2.heap.size w2 (w2.alloc (.cells #[.slice (some ⟨G2, 0, none⟩) n n] 36)) := (Below.refl _ w2).alloc (Nat.le_refl _) _
  have HB3 := hide ((HB1.out.trans (hB2.mono HB1.out.size)).trans (hB3.mono (Nat.le_trans HB1.out.size hB2.size)))
  have HM3 := hide (hM2.below hB3 (Nat.le_refl _))
  clear hB2 hM2 hB3
  go_wp2
  go_ret2
  refine ⟨G2, rfl, ?_, HB3.out⟩
  have e1 : adjF n a = chM n a (n - 1) := by
   funext i k
   unfold adjF
   rw [if_neg HE.out]
  rw [e1]
  exact HM3.out
end Go.Proofs.YtbnpjoiojhnimaaGreatDoor
