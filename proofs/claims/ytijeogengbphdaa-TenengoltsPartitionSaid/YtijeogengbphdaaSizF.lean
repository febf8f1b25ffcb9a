/- tenengolts.Size's closure: its contract (it replaces the captured counts). -/
import Derived.Test.YtijeogengbphdaaIRow
set_option linter.unusedVariables false
namespace Go.Proofs.Ytijeogengbphdaa
open Go.RowKit
/-- all that lay is the same, but for one block -/
structure Off (B b : Nat) (w w' : World) : Prop where
  os : w'.os = w.os
  tape : w'.tape = w.tape
  output : w'.output = w.output
  size : w.heap.size ≤ w'.heap.size
  block : ∀ k, k < B → k ≠ b → w'.heap[k]? = w.heap[k]?
/-- the variable's block -/
def VarS (w : World) (b : Nat) (v : Value) : Prop := w.heap[b]? = some (.cells #[v] 69 (0, 0))
theorem VarS.cell {w : World} {b : Nat} {v : Value} (h : VarS w b v) : w.cell? ⟨b, 0, none⟩ = some v := by rw [cell_of_row w b 0 _ _ _ h]; rfl
theorem VarS.free_ {w : World} {b : Nat} {v : Value} (h : VarS w b v) : w.frozen? ⟨b, 0, none⟩ = false := by unfold VarS at h; simp [World.frozen?, h]
theorem VarS.set_ {w : World} {b : Nat} {v : Value} (h : VarS w b v) (u : Value) : VarS (w.setCell ⟨b, 0, none⟩ u) b u := by
  unfold VarS at h ⊢
  simp [World.setCell, Array.getElem?_modify, h]
theorem ResI.otherAt {w : World} {B R : Nat} {b : Bool} {s : ByteArray} (h : ResI w B b s) (hne : B ≠ R) (i j : Nat) (u v : Value) : ResI ((w.setCell ⟨R, i, none⟩ u).setCell ⟨R, j, none⟩ v) B b s := by
  unfold ResI at h ⊢
  rw [Below.heap_setCell _ ⟨R, j, none⟩ _ B hne, Below.heap_setCell _ ⟨R, i, none⟩ _ B hne]
  exact h
set_option maxRecDepth 100000 in
set_option maxHeartbeats 4000000 in
theorem sizeClo_any (m p : Nat) (c : List Nat) (b1 b2 g : Nat) (w : World) (hm : m ≤ 64) (hp0 : 0 < p) (hp : p ≤ m) (hc : c.length = m + 1) (hcb : ∀ k, c.getD k 0 ≤ 9223372036854775808)
    (h1 : w.cell? ⟨b1, 0, none⟩ = some (.int .i64 (m : Int))) (hb1 : b1 < w.heap.size) (h2 : VarS w b2 (.slice (some ⟨g, 0, none⟩) (m + 1) (m + 1))) (hb2 : b2 < w.heap.size) (hg : IRow w g c) (hgl : g < w.heap.size) :
    Calls Try.prog 52 #[.int .i64 (p : Int), .pointer (some ⟨b1, 0, none⟩), .pointer (some ⟨b2, 0, none⟩)] w
      fun e w' => e = .returned (.tuple #[]) ∧ VarS w' b2 (.slice (some ⟨w.heap.size, 0, none⟩) (m + 1) (m + 1)) ∧ IRow w' w.heap.size (nxtL m p c (m + 1)) ∧ w.heap.size < w'.heap.size ∧ Off w.heap.size b2 w w' := by
  obtain ⟨M, hM⟩ : ∃ M, M = m + 1 := ⟨_, rfl⟩
  have hMi : (m : Int) + 1 = (M : Int) := by omega
  have hmk := fun W => run_make_is M (by omega) W
  have hv := h2.cell
  rw [← hM] at hv
  have HC := hide hcb
  have HG := hide hg
  have H2 := hide h2
  have HM := hide hM
  have hM64 : M ≤ 65 := by omega
  clear hcb hg h2 hM
  obtain ⟨B, hBB⟩ : ∃ B, w.heap.size = B := ⟨_, rfl⟩
  have hW1 : Below w.heap.size w (w.alloc (.cells (icells (List.replicate M 0)).toArray 39)) := (Below.refl _ w).alloc (Nat.le_refl _) _
  have hv2 := (hW1.cell (p := ⟨b2, 0, none⟩) hb2).trans hv
  have hR1 : IRow (w.alloc (.cells (icells (List.replicate M 0)).toArray 39)) w.heap.size (nxtL m p c 0) := by rw [nxtL_zero, ← HM.out]; exact IRow.new_ w _
  have hS1 : (w.alloc (.cells (icells (List.replicate M 0)).toArray 39)).heap.size = w.heap.size + 1 := by simp
  have HC1 := hide h1
  go_enter Try.func52, Try.ntmps52
  go_wp2
  clear hmk hv2 h1
  generalize w.alloc (.cells (icells (List.replicate M 0)).toArray 39) = W1 at hW1 hR1 hS1 ⊢
  rw [hBB] at hW1 hR1 hS1 hb1 hb2 hgl
  go_loopw [13] (fun iv wr => ∃ s : Nat, iv = .int .i64 s ∧ s ≤ M ∧ IRow wr B (nxtL m p c s) ∧ Below B w wr ∧ B < wr.heap.size) (fun iv _ => M - (intOf iv).toNat)
  case atStart => exact ⟨0, rfl, Nat.zero_le _, hR1, hW1, by omega⟩
  case round =>
    obtain ⟨s, rfl, hs, hR, hB, hBl⟩ := hrel
    by_cases hlt : s < M
    · have hgr := HG.out.below (hB.mono (Nat.le_of_eq hBB)) (by rw [hBB]; exact hgl)
      have e0 := hgr.c0 (k := s) (by have := HM.out; omega)
      have e1 := hgr.c1 (k := s) (by have := HM.out; omega)
      have en := (hB.cell (p := ⟨b1, 0, none⟩) hb1).trans HC1.out
      obtain ⟨x, hx⟩ : ∃ x, x = c.getD s 0 := ⟨_, rfl⟩
      rw [← hx] at e1
      obtain ⟨t, ht⟩ : ∃ t, t = (s + p) % M := ⟨_, rfl⟩
      have hti : ((s : Int) + (p : Int)).tmod (M : Int) = (t : Int) := by
        rw [Int.tmod_eq_emod_of_nonneg (by omega), ht, Int.natCast_emod, Int.natCast_add]
      have htM : t < M := by rw [ht]; exact Nat.mod_lt _ (by omega)
      have HX := hide hx
      have HT := hide ht
      clear hgr hx ht
      have hM0 : ((M : Int) == 0) = false := by rw [beq_eq_false_iff_ne]; omega
      have hA1 : Below wr.heap.size wr (wr.alloc (.cells #[.bool false, .string (mg x)] 39)) := (Below.refl _ wr).alloc (Nat.le_refl _) _
      have en2 := (hA1.cell (p := ⟨b1, 0, none⟩) (by show b1 < _; omega)).trans en
      have hX1 : ResI (wr.alloc (.cells #[.bool false, .string (mg x)] 39)) wr.heap.size false (mg x) := ResI.new_ wr _ _
      have hXs : (wr.alloc (.cells #[.bool false, .string (mg x)] 39)).heap.size = wr.heap.size + 1 := by simp
      go_wp2_with fail
      clear en2
      have hR2 : IRow (wr.alloc (.cells #[.bool false, .string (mg x)] 39)) B (nxtL m p c s) := hR.below hA1 hBl
      have hB2 : Below B w (wr.alloc (.cells #[.bool false, .string (mg x)] 39)) := hB.trans (hA1.mono (by omega))
      obtain ⟨X, hXX⟩ : ∃ X, wr.heap.size = X := ⟨_, rfl⟩
      generalize wr.alloc (.cells #[.bool false, .string (mg x)] 39) = w2 at hX1 hXs hR2 hB2 ⊢
      rw [hXX] at hX1 hXs hBl ⊢
      obtain ⟨y, hy⟩ : ∃ y, y = nxt m p c s s := ⟨_, rfl⟩
      have q0 := hR2.c0 (k := s) (by rw [nxtL_len]; have := HM.out; omega)
      have q1 := hR2.c1 (k := s) (by rw [nxtL_len]; have := HM.out; omega)
      have hgy : (nxtL m p c s).getD s 0 = y := by
        rw [List.getD_eq_getElem?_getD, List.getElem?_eq_getElem (by rw [nxtL_len]; have := HM.out; omega), nxtL_get, hy]; rfl
      rw [hgy] at q1
      have hyb : Sml y := by
        refine Sml.of64 ?_
        rw [hy]
        have := nxt_le (m := m) (p := p) (s := s) (k := s) HC.out
        omega
      have hxb : Sml x := by
        refine Sml.of64 ?_
        rw [HX.out]
        have := HC.out s
        omega
      have HA := hide (fun W => iAdd_agg y x W hyb hxb)
      have HY := hide hy
      have HR2 := hide hR2
      clear hR hB hA1 en e0 e1 hXX hgy hy hyb hxb
      have hR2 : IRow w2.drew B (nxtL m p c s) := HR2.out
      have k : ResI w2.drew X false (mg x) := hX1
      replace q0 : w2.drew.cell? ⟨B, s * 2, none⟩ = some (.bool false) := q0
      replace q1 : w2.drew.cell? ⟨B, s * 2 + 1, none⟩ = some (.string (mg y)) := q1
      have hXB : X ≠ B := by omega
      have lX : X < X + 1 := Nat.lt_succ_self _
      have lB : B < X + 1 := by omega
      have k0 := k.c0
      have k1 := k.c1
      go_region_with (first | (go_at_call 31; refine (HA.out _).mono ?_; rintro e w3 ⟨rfl, hB3⟩; have hB4 : Below (X + 1) w2 w3 := (Below.refl (X + 1) w2).drew.trans (hB3.mono (Nat.le_of_eq hXs.symm)); replace k := hX1.below hB4 lX; replace hR2 := HR2.out.below hB4 lB; have y0 := hR2.c0 (k := s) (by rw [nxtL_len, ← HM.out]; exact hlt); have y1 := hR2.c1 (k := s) (by rw [nxtL_len, ← HM.out]; exact hlt); have z0 := hR2.free_ (s * 2); have z1 := hR2.free_ (s * 2 + 1)))
      all_goals (
        have hlen : (nxtL m p c s).length = M := by rw [nxtL_len, ← HM.out]
        have hR4 := hR2.set_ (k := s) (by rw [hlen]; exact hlt) (y + x)
        have k4 := k.otherAt hXB (s * 2) (s * 2 + 1) (.bool false) (.string (mg (y + x)))
        have hB5 : Below B w ((w3.setCell ⟨B, s * 2, none⟩ (.bool false)).setCell ⟨B, s * 2 + 1, none⟩ (.string (mg (y + x)))) := Below.pairAt (hB2.trans (hB4.mono (by omega))) (Nat.le_refl _) _ _ _ _
        have hs5 : X + 1 ≤ ((w3.setCell ⟨B, s * 2, none⟩ (.bool false)).setCell ⟨B, s * 2 + 1, none⟩ (.string (mg (y + x)))).heap.size :=
          Nat.le_trans (Nat.le_trans (Nat.le_of_eq hXs.symm) hB4.size) (Below.pairAt (Below.refl 0 w3) (Nat.zero_le B) (s * 2) (s * 2 + 1) _ _).size
        generalize (w3.setCell ⟨B, s * 2, none⟩ (.bool false)).setCell ⟨B, s * 2 + 1, none⟩ (.string (mg (y + x))) = w4 at hR4 k4 hB5 hs5 ⊢
        clear hB3 hB4 k hR2 y0 y1 z0 z1 HA q0 q1 HR2 hB2
        have hts : t ≠ s := by
          have := step_ne (m := m) hp0 hp (show s ≤ m by have := HM.out; omega)
          rw [← HM.out, ← HT.out] at this
          exact this
        obtain ⟨y2, hy2⟩ : ∃ y2, y2 = nxt m p c s t := ⟨_, rfl⟩
        have hgt : ((nxtL m p c s).set s (y + x)).getD t 0 = y2 := by
          rw [List.getD_eq_getElem?_getD, List.getElem?_set, if_neg (fun h => hts h.symm), List.getElem?_eq_getElem (by rw [hlen]; exact htM), nxtL_get, hy2]
          rfl
        have hyb : Sml y2 := by
          refine Sml.of64 ?_
          rw [hy2]
          have := nxt_le (m := m) (p := p) (s := s) (k := t) HC.out
          omega
        have hxb : Sml x := by
          refine Sml.of64 ?_
          rw [HX.out]
          have := HC.out s
          omega
        have HA := hide (fun W => iAdd_agg y2 x W hyb hxb)
        have hlen2 : ((nxtL m p c s).set s (y + x)).length = M := by rw [List.length_set, hlen]
        have hstep : ((nxtL m p c s).set s (y + x)).set t (y2 + x) = nxtL m p c (s + 1) := by
          rw [HT.out, HM.out]
          refine nxtL_step hp0 hp (by have := HM.out; omega) (by rw [HY.out, HX.out]) ?_
          rw [hy2, HX.out, HT.out, HM.out]
        have HS := hide hstep
        obtain ⟨L, hL⟩ : ∃ L, L = (nxtL m p c s).set s (y + x) := ⟨_, rfl⟩
        rw [← hL] at hR4 hgt hlen2 HS
        have HL := hide hlen2
        have q0 := hR4.c0 (k := t) (by rw [hlen2]; exact htM)
        have q1 := hR4.c1 (k := t) (by rw [hlen2]; exact htM)
        rw [hgt] at q1
        have HR4 := hide hR4
        clear hgt hyb hxb hlen2 hstep hL hlen hy2
        have hR2 : IRow w4.drew B L := HR4.out
        have k : ResI w4.drew X false (mg x) := k4
        replace q0 : w4.drew.cell? ⟨B, t * 2, none⟩ = some (.bool false) := q0
        replace q1 : w4.drew.cell? ⟨B, t * 2 + 1, none⟩ = some (.string (mg y2)) := q1
        have ht0 : (0 : Int) ≤ (t : Int) := by omega
        have ht1 : (t : Int) < (M : Int) := by omega
        go_wp2_with fail
        have k0 := k.c0
        have k1 := k.c1
        go_region_with (first | (go_at_call 31; refine (HA.out _).mono ?_; rintro e w5 ⟨rfl, hB6⟩; have hB7 : Below (X + 1) w4 w5 := (Below.refl (X + 1) w4).drew.trans (hB6.mono hs5); replace k := k4.below hB7 lX; replace hR2 := HR4.out.below hB7 lB; have y0 := hR2.c0 (k := t) (by rw [HL.out]; exact htM); have y1 := hR2.c1 (k := t) (by rw [HL.out]; exact htM); have z0 := hR2.free_ (t * 2); have z1 := hR2.free_ (t * 2 + 1)))
        all_goals (
          have hR8 := hR2.set_ (k := t) (by rw [HL.out]; exact htM) (y2 + x)
          rw [HS.out] at hR8
          have hB8 : Below B w ((w5.setCell ⟨B, t * 2, none⟩ (.bool false)).setCell ⟨B, t * 2 + 1, none⟩ (.string (mg (y2 + x)))) := Below.pairAt (hB5.trans (hB7.mono (by omega))) (Nat.le_refl _) _ _ _ _
          have hs8 := Nat.le_trans (Nat.le_trans hs5 hB7.size) (Below.pairAt (Below.refl 0 w5) (Nat.zero_le B) (t * 2) (t * 2 + 1) (.bool false) (.string (mg (y2 + x)))).size
          generalize (w5.setCell ⟨B, t * 2, none⟩ (.bool false)).setCell ⟨B, t * 2 + 1, none⟩ (.string (mg (y2 + x))) = w6 at hR8 hB8 hs8 ⊢
          clear hB6 hB7 k hR2 y0 y1 z0 z1 HA q0 q1
          go_wp2
          go_roundw
          case rel => exact ⟨s + 1, by go_num, hlt, hR8, hB8, by omega⟩
          case measure => simp [intOf]; omega))
    · obtain rfl : s = M := by omega
      have hr2 : VarS wr b2 (.slice (some ⟨g, 0, none⟩) (m + 1) (m + 1)) := (hB.block b2 hb2).trans H2.out
      have f0 := hr2.cell
      have z0 := hr2.free_
      go_wp2
      go_end0
      have hne : B ≠ b2 := by omega
      have hMm := HM.out
      refine ⟨rfl, ?_, ?_, ?_, ?_⟩
      · rw [hBB, ← hMm]
        exact hr2.set_ _
      · rw [hBB, ← hMm]
        exact (Below.heap_setCell _ ⟨b2, 0, none⟩ _ B hne).trans hR
      · rw [hBB]
        exact Nat.lt_of_lt_of_le hBl ((Below.refl 0 wr).setCell (p := ⟨b2, 0, none⟩) (Nat.zero_le _) _).size
      · rw [hBB]
        have h9 := (Below.refl 0 wr).setCell (p := ⟨b2, 0, none⟩) (Nat.zero_le _) (Value.slice (some ⟨B, 0, none⟩) s s)
        exact ⟨h9.os.trans hB.os, h9.tape.trans hB.tape, h9.output.trans hB.output, Nat.le_trans hB.size h9.size, fun k hk hkn => (Below.heap_setCell _ ⟨b2, 0, none⟩ _ k hkn).trans (hB.block k hk)⟩
end Go.Proofs.Ytijeogengbphdaa
