/- Shortest of both sides. -/
import Derived.Test.YtmokccidpnpimaaDoorSrc
import Derived.Test.YtmokccidpnpimaaDoorVer
set_option linter.unusedVariables false
namespace Go.Proofs.YtmokccidpnpimaaDoor
open Go.RowKit Go.Maps
def fullS (rows : List (List Int)) : Nat := 2 ^ rows.length - 1
/-- the first reset word -/
def fst44 (rows : List (List Int)) (L : Int) : ByteArray × Bool := first rows L.toNat (fullS rows)
def shrV (L : Int) (rows : List (List Int)) : Value := if chkA L rows = 0 then .tuple #[.string (fst44 rows L).1, .bool (fst44 rows L).2, .int .i64 0] else .tuple #[.string ⟨#[]⟩, .bool false, .int .i64 1]
theorem shrV_ok {L : Nat} {rows : List (List Int)} (h : chkA L rows = 0) : shrV L rows = .tuple #[.string (first rows L (fullS rows)).1, .bool (first rows L (fullS rows)).2, .int .i64 0] := by unfold shrV fst44; rw [if_pos h]; rfl
theorem shrV_bad {L : Int} {rows : List (List Int)} (h : chkA L rows ≠ 0) : shrV L rows = .tuple #[.string ⟨#[]⟩, .bool false, .int .i64 1] := by unfold shrV; rw [if_neg h]
set_option maxRecDepth 100000 in
set_option maxHeartbeats 4000000 in
theorem zShortest_any (L : Int) (rows : List (List Int)) (A : Option Addr) (cc : Nat) (w : World) (hg : grt L rows.length = false) (hR : RowD w A rows) (hT : TabZ w) (hb : rows.length ≤ 9223372036854775807) :
    Calls Tryd.prog 22 #[.agg #[.int .i64 L, .slice A rows.length cc]] w fun e w' => e = .returned (shrV L rows) ∧ Below w.heap.size w w' := by
  have hB0 : Below w.heap.size w (w.alloc (Obj.cells #[.int .i64 L, .slice A rows.length cc] 24)) := (Below.refl _ w).alloc (Nat.le_refl _) _
  have HR := hide (hR.below hB0)
  have HT := hide (hT.below hB0)
  obtain ⟨B, hBB⟩ : ∃ B, w.heap.size = B := ⟨_, rfl⟩
  have hbx : BoxA (w.alloc (Obj.cells #[.int .i64 L, .slice A rows.length cc] 24)) B L A rows.length cc := by rw [← hBB]; exact heap_alloc_new w _
  have k0 := hbx.c0
  have k1 := hbx.c1
  have hsz : (w.alloc (Obj.cells #[.int .i64 L, .slice A rows.length cc] 24)).heap.size = B + 1 := by rw [← hBB]; simp
  have HC := hide (fun W (h : RowD W A rows) => zCheck_any L rows A cc W h hb)
  by_cases h0 : chkA L rows = 0
  · obtain ⟨l, rfl, hA⟩ := aut_of hg h0
    rw [shrV_ok h0]
    rw [h0] at HC
    have hn := hA.n6
    have HS := hide (fun W (h : RowD W A rows) (hT : TabZ W) => zsearch_any rows l (fullS rows) A cc W hA (full_lt _) h hT)
    have HF := hide (fun W => zall_any rows l A cc W (by omega))
    obtain ⟨F, hFF⟩ : ∃ F, 2 ^ rows.length - 1 = F := ⟨_, rfl⟩
    have hfu : fullS rows = F := hFF
    rw [hfu] at HS ⊢
    rw [hFF] at HF
    obtain ⟨R, hRR⟩ : ∃ R, first rows l F = R := ⟨_, rfl⟩
    rw [hRR] at HS ⊢
    unfold firstR at HS
    clear hR hT hg h0 hA hFF hfu hRR
    go_enter Tryd.func22, Tryd.ntmps22
    go_wp2_with fail
    generalize w.alloc (Obj.cells #[.int .i64 (l : Int), .slice A rows.length cc] 24) = W1 at hB0 HR HT hbx k0 k1 hsz ⊢
    have lB : B < W1.heap.size := by omega
    go_wp2_with (go_at_call 29; refine (HC.out W1 HR.out).mono ?_; rintro e w2 ⟨rfl, hB2⟩)
    have hAcc : Below W1.heap.size W1 w2.drew := hB2.drew
    have m0 := (hAcc.cell (p := ⟨B, 0, none⟩) lB).trans k0
    have m1 := (hAcc.cell (p := ⟨B, 1, none⟩) lB).trans k1
    go_region_held3 (fun W => W.cell? ⟨B, 0, none⟩ = some (.int .i64 l) ∧ W.cell? ⟨B, 1, none⟩ = some (.slice A rows.length cc))
      (first | with_reducible exact ⟨m0, m1⟩)
      (first
        | (go_at_call 37; refine (HF.out _).mono ?_; rintro e w3 ⟨rfl, hB3⟩; replace hAcc := hAcc.trans (hB3.mono hAcc.size); replace m0 := (hAcc.cell (p := ⟨B, 0, none⟩) lB).trans k0; replace m1 := (hAcc.cell (p := ⟨B, 1, none⟩) lB).trans k1)
        | (go_at_call 46; refine (HS.out _ (HR.out.below hAcc) (HT.out.below hAcc)).mono ?_; rintro e w4 ⟨rfl, hB4⟩; replace hAcc := hAcc.trans (hB4.mono hAcc.size); replace m0 := (hAcc.cell (p := ⟨B, 0, none⟩) lB).trans k0; replace m1 := (hAcc.cell (p := ⟨B, 1, none⟩) lB).trans k1))
    all_goals (
      go_wp2
      go_ret3
      exact ⟨rfl, hBB ▸ hB0.trans (hAcc.mono (by omega))⟩)
  · have hne : (chkA L rows != 0) = true := by rw [bne_iff_ne]; exact h0
    rw [shrV_bad h0]
    clear hR hT hbx
    go_enter Tryd.func22, Tryd.ntmps22
    go_wp2_with fail
    generalize w.alloc (Obj.cells #[.int .i64 L, .slice A rows.length cc] 24) = W1 at hB0 HR HT k0 k1 hsz ⊢
    go_wp2_with (go_at_call 29; refine (HC.out W1 HR.out).mono ?_; rintro e w2 ⟨rfl, hB2⟩)
    go_ret3
    exact ⟨rfl, hBB ▸ hB0.trans (hB2.mono (by omega))⟩
set_option maxRecDepth 100000 in
set_option maxHeartbeats 4000000 in
theorem zrShortest_any (L : Int) (rows : List (List Int)) (A : Option Addr) (cc : Nat) (w : World) (hg : grt L rows.length = false) (hR : RowD w A rows) (hT : TabZ w) (hb : rows.length ≤ 9223372036854775807) :
    Calls Tryd.prog 32 #[.agg #[.int .i64 L, .slice A rows.length cc]] w fun e w' => e = .returned (shrV L rows) ∧ Below w.heap.size w w' := by
  have hB0 : Below w.heap.size w (w.alloc (Obj.cells #[.int .i64 L, .slice A rows.length cc] 24)) := (Below.refl _ w).alloc (Nat.le_refl _) _
  have HR := hide (hR.below hB0)
  have HT := hide (hT.below hB0)
  obtain ⟨B, hBB⟩ : ∃ B, w.heap.size = B := ⟨_, rfl⟩
  have hbx : BoxA (w.alloc (Obj.cells #[.int .i64 L, .slice A rows.length cc] 24)) B L A rows.length cc := by rw [← hBB]; exact heap_alloc_new w _
  have k0 := hbx.c0
  have k1 := hbx.c1
  have hsz : (w.alloc (Obj.cells #[.int .i64 L, .slice A rows.length cc] 24)).heap.size = B + 1 := by rw [← hBB]; simp
  have HC := hide (fun W (h : RowD W A rows) => zrCheck_any L rows A cc W h hb)
  by_cases h0 : chkA L rows = 0
  · obtain ⟨l, rfl, hA⟩ := aut_of hg h0
    rw [shrV_ok h0]
    rw [h0] at HC
    have hn := hA.n6
    have HS := hide (fun W (h : RowD W A rows) (hT : TabZ W) => zfirst_any rows l (fullS rows) A cc W hA (full_lt _) h)
    have HF := hide (fun W => zfull_any rows l A cc W (by omega))
    obtain ⟨F, hFF⟩ : ∃ F, 2 ^ rows.length - 1 = F := ⟨_, rfl⟩
    have hfu : fullS rows = F := hFF
    rw [hfu] at HS ⊢
    rw [hFF] at HF
    obtain ⟨R, hRR⟩ : ∃ R, first rows l F = R := ⟨_, rfl⟩
    rw [hRR] at HS ⊢
    unfold firstR at HS
    clear hR hT hg h0 hA hFF hfu hRR
    go_enter Tryd.func32, Tryd.ntmps32
    go_wp2_with fail
    generalize w.alloc (Obj.cells #[.int .i64 (l : Int), .slice A rows.length cc] 24) = W1 at hB0 HR HT hbx k0 k1 hsz ⊢
    have lB : B < W1.heap.size := by omega
    go_wp2_with (go_at_call 20; refine (HC.out W1 HR.out).mono ?_; rintro e w2 ⟨rfl, hB2⟩)
    have hAcc : Below W1.heap.size W1 w2.drew := hB2.drew
    have m0 := (hAcc.cell (p := ⟨B, 0, none⟩) lB).trans k0
    have m1 := (hAcc.cell (p := ⟨B, 1, none⟩) lB).trans k1
    go_region_held3 (fun W => W.cell? ⟨B, 0, none⟩ = some (.int .i64 l) ∧ W.cell? ⟨B, 1, none⟩ = some (.slice A rows.length cc))
      (first | with_reducible exact ⟨m0, m1⟩)
      (first
        | (go_at_call 41; refine (HF.out _).mono ?_; rintro e w3 ⟨rfl, hB3⟩; replace hAcc := hAcc.trans (hB3.mono hAcc.size); replace m0 := (hAcc.cell (p := ⟨B, 0, none⟩) lB).trans k0; replace m1 := (hAcc.cell (p := ⟨B, 1, none⟩) lB).trans k1)
        | (go_at_call 55; refine (HS.out _ (HR.out.below hAcc) (HT.out.below hAcc)).mono ?_; rintro e w4 ⟨rfl, hB4⟩; replace hAcc := hAcc.trans (hB4.mono hAcc.size); replace m0 := (hAcc.cell (p := ⟨B, 0, none⟩) lB).trans k0; replace m1 := (hAcc.cell (p := ⟨B, 1, none⟩) lB).trans k1))
    all_goals (
      go_wp2
      go_ret3
      exact ⟨rfl, hBB ▸ hB0.trans (hAcc.mono (by omega))⟩)
  · have hne : (chkA L rows != 0) = true := by rw [bne_iff_ne]; exact h0
    rw [shrV_bad h0]
    clear hR hT hbx
    go_enter Tryd.func32, Tryd.ntmps32
    go_wp2_with fail
    generalize w.alloc (Obj.cells #[.int .i64 L, .slice A rows.length cc] 24) = W1 at hB0 HR HT k0 k1 hsz ⊢
    go_wp2_with (go_at_call 20; refine (HC.out W1 HR.out).mono ?_; rintro e w2 ⟨rfl, hB2⟩)
    go_ret3
    exact ⟨rfl, hBB ▸ hB0.trans (hB2.mono (by omega))⟩
end Go.Proofs.YtmokccidpnpimaaDoor
