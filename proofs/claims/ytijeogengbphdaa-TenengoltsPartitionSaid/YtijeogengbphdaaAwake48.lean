/- Contract of groovelaw48.awake: it returns true, and nothing that lay has changed. -/
import Derived.Test.YtijeogengbphdaaTCor
import Derived.Test.YtijeogengbphdaaEnc
import Derived.Test.YtijeogengbphdaaAll
import Derived.Test.YtijeogengbphdaaEq
import Derived.KernelRfl
set_option linter.unusedVariables false
namespace Go.Proofs.Ytijeogengbphdaa
open Go.RowKit
theorem ex_words : words 4 0 = ([⟨#[48, 48, 48, 48]⟩, ⟨#[48, 49, 49, 48]⟩, ⟨#[49, 48, 48, 49]⟩, ⟨#[49, 49, 49, 49]⟩], 0) := by kernel_rfl
theorem ex_corr : corr 4 0 ⟨#[48, 49, 48]⟩ = (⟨#[48, 49, 49, 48]⟩, 0) := by kernel_rfl
theorem ex_enc1 : enc 7 [49, 48, 49, 49] = ([48, 48, 49, 48, 48, 49, 49], 0) := by kernel_rfl
theorem ex_enc2 : enc 7 [49, 48, 48, 48] = ([49, 48, 49, 49, 48, 48, 48], 0) := by kernel_rfl
theorem ex_data : dataV 7 = (4, 0) := by kernel_rfl

set_option maxRecDepth 100000 in
set_option maxHeartbeats 1000000 in
theorem awake48_any (w : World) : Calls Try.prog 11 #[] w fun e w' => e = .returned (.bool true) ∧ Below w.heap.size w w' := by
  have c1 := twords_any 4 0 w
  rw [ex_words] at c1
  have c2 := fun W => tcor_any 4 0 ⟨#[48, 49, 48]⟩ W
  rw [ex_corr] at c2
  have c3 := fun W => tenc_any 7 ⟨#[49, 48, 49, 49]⟩ W
  rw [show (⟨#[49, 48, 49, 49]⟩ : ByteArray).data.toList = [49, 48, 49, 49] from rfl, ex_enc1] at c3
  have c4 := fun W => tenc_any 7 ⟨#[49, 48, 48, 48]⟩ W
  rw [show (⟨#[49, 48, 48, 48]⟩ : ByteArray).data.toList = [49, 48, 48, 48] from rfl, ex_enc2] at c4
  have c5 := fun W => tData_any 7 W
  rw [ex_data] at c5
  have H1 := hide c1
  have H2 := hide c2
  have H3 := hide c3
  have H4 := hide c4
  have H5 := hide c5
  clear c1 c2 c3 c4 c5
  have hmax : ∀ W, (Builtin.max_ #[23, 23, 23, 23, 23] 23 #[.int .i64 0, .int .i64 0, .int .i64 0, .int .i64 0, .int .i64 0]).run Try.prog W = .ok (.int .i64 0) W := fun _ => by kernel_rfl
  go_enter Try.func11, Try.ntmps11
  go_wp2_with fail
  refine H1.out.mono ?_
  rintro e w1 ⟨v, he, hrow, hB1⟩
  obtain ⟨g, cap, hv, hg1, hg2⟩ := hrow.form (by simp)
  subst hv
  subst he
  go_wp2_with fail
  refine (H2.out _).mono ?_
  rintro e w2 ⟨rfl, hB2⟩
  go_wp2_with fail
  refine (H3.out _).mono ?_
  rintro e w3 ⟨rfl, hB3⟩
  go_wp2_with fail
  refine (H4.out _).mono ?_
  rintro e w4 ⟨rfl, hB4⟩
  go_wp2_with fail
  refine (H5.out _).mono ?_
  rintro e w5 ⟨rfl, rfl⟩
  go_wp2_with fail
  have hB5 := ((hB1.trans (hB2.mono hB1.size)).trans (hB3.mono (Nat.le_trans hB1.size hB2.size))).trans (hB4.mono (Nat.le_trans hB1.size (Nat.le_trans hB2.size hB3.size)))
  have hr4 : RdS w4 (.slice (some ⟨g, 0, none⟩) 4 cap) [⟨#[48, 48, 48, 48]⟩, ⟨#[48, 49, 49, 48]⟩, ⟨#[49, 48, 48, 49]⟩, ⟨#[49, 49, 49, 49]⟩] := by
    refine .inr ⟨g, cap, rfl, fun k hk => ?_⟩
    have hgl2 := Nat.lt_of_lt_of_le hg2 hB2.size
    have hgl3 := Nat.lt_of_lt_of_le hgl2 hB3.size
    rw [hB4.cell (p := ⟨g, k, none⟩) hgl3, hB3.cell (p := ⟨g, k, none⟩) hgl2, hB2.cell (p := ⟨g, k, none⟩) hg2]
    exact hrow.cell hk
  have hr5 : RdS (w4.alloc (Obj.cells #[Value.string ⟨#[48, 48, 48, 48]⟩, Value.string ⟨#[48, 49, 49, 48]⟩, Value.string ⟨#[49, 48, 48, 49]⟩, Value.string ⟨#[49, 49, 49, 49]⟩] 9)) (.slice (some ⟨g, 0, none⟩) 4 cap) [⟨#[48, 48, 48, 48]⟩, ⟨#[48, 49, 49, 48]⟩, ⟨#[49, 48, 48, 49]⟩, ⟨#[49, 49, 49, 49]⟩] := by
    rcases hr4 with ⟨h, _⟩ | ⟨g', c', he, hc⟩
    · cases h
    · refine .inr ⟨g', c', he, fun k hk => ?_⟩
      have h1 := hc k hk
      exact (World.cell?_alloc_lt w4 _ ⟨g', k, none⟩ (World.block_lt_of_cell? w4 _ h1)).trans h1
  have hr6 := (Strs.lit w4 [⟨#[48, 48, 48, 48]⟩, ⟨#[48, 49, 49, 48]⟩, ⟨#[49, 48, 48, 49]⟩, ⟨#[49, 49, 49, 49]⟩] (Nat.le_refl _) (by simp) _ rfl).rd
  refine (slEqual_any _ _ _ _ _ hr5 hr6 (by simp) (by simp)).mono ?_
  rintro e w6 ⟨rfl, q, rfl⟩
  have htr : decide ((([⟨#[48, 48, 48, 48]⟩, ⟨#[48, 49, 49, 48]⟩, ⟨#[49, 48, 48, 49]⟩, ⟨#[49, 49, 49, 49]⟩] : List ByteArray) = [⟨#[48, 48, 48, 48]⟩, ⟨#[48, 49, 49, 48]⟩, ⟨#[49, 48, 48, 49]⟩, ⟨#[49, 49, 49, 49]⟩])) = true := by simp
  rw [htr]
  have HB := hide (belowN (hB5.alloc hB5.size (Obj.cells #[Value.string ⟨#[48, 48, 48, 48]⟩, Value.string ⟨#[48, 49, 49, 48]⟩, Value.string ⟨#[49, 48, 48, 49]⟩, Value.string ⟨#[49, 49, 49, 49]⟩] 9)) q)
  clear hr4 hr5 hr6 htr hB1 hB2 hB3 hB4 hB5 hrow
  go_wp2
  go_ret
  exact ⟨rfl, HB.out⟩
#print axioms awake48_any
end Go.Proofs.Ytijeogengbphdaa
