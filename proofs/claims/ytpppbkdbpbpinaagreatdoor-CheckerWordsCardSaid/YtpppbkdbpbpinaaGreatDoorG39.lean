import Derived.Test.YtpppbkdbpbpinaaGreatDoorG19
import Derived.Test.YtpppbkdbpbpinaaGreatDoorG38
import Derived.Test.YtpppbkdbpbpinaaGreatDoorG28
import Derived.Test.YtpppbkdbpbpinaaGreatDoorG2
import Derived.Test.YtpppbkdbpbpinaaGreatDoorG8
import Derived.Test.YtpppbkdbpbpinaaGreatDoorG27
set_option linter.unusedSimpArgs false
set_option linter.unusedVariables false
/- checker.Reset, grooveref59.Reset at automata of few states: their contracts (printed by wip/mk_rst.py). -/
set_option linter.unusedVariables false
namespace Go.Proofs.YtpppbkdbpbpinaaGreatDoor
open Go.RowKit Go.Shelf
theorem Ints.rowW {w : World} {B : Nat} {v : Value} {zs : List Int} (h : Ints w B v zs) : ∃ A c, v = .slice A zs.length c ∧ RowI w A zs ∧ zs.length ≤ 9223372036854775807 := by
  rcases h.2 with ⟨rfl, h0⟩ | ⟨g, cap, cur, rfl, hb, hg, hn, hm, hs, ht⟩
  · exact ⟨none, 0, by rw [h0], fun h => absurd h (by omega), by omega⟩
  · refine ⟨_, cap, rfl, fun _ => ⟨g, 0, rfl, (Array.getElem?_eq_some_iff.1 hg).1, fun k hk => ?_⟩, by unfold maxLen at hm; omega⟩
    rw [Nat.zero_add, cell_of_row w g k cur 3 (0, 0) hg]
    have hk2 : (List.map (Value.int .i64) zs)[k]? = some (.int .i64 zs[k]) := by simp [hk]
    rw [← ht, List.getElem?_take] at hk2
    split at hk2
    · simpa using hk2
    · cases hk2
theorem OutV.rowW {w : World} {B : Nat} {v : Value} {ls : List (List Int)} (h : OutV w B v ls) : ∃ D c, v = .slice D ls.length c ∧ RowD w D ls ∧ ls.length ≤ 9223372036854775807 ∧ ∀ x ∈ ls, x.length ≤ 9223372036854775807 := by
  obtain ⟨vs, hrow, hin⟩ := h
  have hall : ∀ x ∈ ls, x.length ≤ 9223372036854775807 := fun x hx => by
    obtain ⟨k, hk, rfl⟩ := List.getElem_of_mem hx
    obtain ⟨u, hu, hI⟩ := hin k hk
    obtain ⟨_, _, _, _, h⟩ := hI.rowW
    exact h
  rcases hrow.2 with ⟨rfl, h0⟩ | ⟨g, cap, cur, rfl, hb, hg, hn, hm, hs, ht⟩
  · exact ⟨none, 0, by rw [h0], fun h => absurd h (by omega), by omega, hall⟩
  · refine ⟨_, cap, rfl, fun _ => ⟨g, 0, rfl, (Array.getElem?_eq_some_iff.1 hg).1, fun k hk => ?_⟩, by unfold maxLen at hm; omega, hall⟩
    obtain ⟨u, hu, hI⟩ := hin k hk
    obtain ⟨D, c, rfl, hD, _⟩ := hI.rowW
    refine ⟨D, c, ?_, hD⟩
    rw [Nat.zero_add, cell_of_row w g k cur 35 (0, 0) hg]
    rw [← ht, List.getElem?_take] at hu
    split at hu
    · simpa using hu
    · cases hu
/-- a certificate of a reset word -/
def crtRs (L : Int) (A : Option Addr) (n cc I : Nat) (D : Option Addr) (m dc : Nat) : Crt := ⟨5, 0, 0, .nil, 0, .nil, L, ⟨A, n, cc⟩, 0, 0, .nil, .nil, 0, .nil, .nil, .nil, ⟨some ⟨I, 0, none⟩, 1, 1⟩, ⟨D, m, dc⟩, .nil⟩
/-- what Reset answers -/
def RstP (L : Int) (rows : List (List Int)) (A : Option Addr) (cc : Nat) (w' : World) (e : Ending) : Prop :=
  (layE L rows ≠ 0 ∧ e = .returned (.tuple #[.agg (Crt.nil 0).cells, .int .i64 (layE L rows)])) ∨
  (layE L rows = 0 ∧ ∃ (I : Nat) (D : Option Addr) (dc : Nat), e = .returned (.tuple #[.agg (crtRs L A rows.length cc I D (layO L rows).length dc).cells, .int .i64 0]) ∧ RowT w' (some ⟨I, 0, none⟩) [(fst44 rows L).1] ∧ RowD w' D (layO L rows) ∧
    (layO L rows).length ≤ 9223372036854775807 ∧ ∀ x ∈ layO L rows, x.length ≤ 9223372036854775807)
theorem rowT1 {w : World} {I : Nat} {s : ByteArray} {t : TypeId} (h : w.heap[I]? = some (.cells #[.string s] t (0, 0))) : RowT w (some ⟨I, 0, none⟩) [s] := fun _ =>
  ⟨I, 0, rfl, (Array.getElem?_eq_some_iff.1 h).1, fun k hk => by
    rw [cell_of_row w I (0 + k) _ t (0, 0) h]
    have hk3 : k < 1 := by simpa using hk
    match k, hk3 with
    | 0, _ => rfl⟩
theorem ownsRow_keepW {w w' : World} {B sz n : Nat} {e : TypeId} {v : Value} {xs : List Value} (hr : w.ownsRow B e sz v n xs) (hk : ∀ k, B ≤ k → k < w.heap.size → w'.heap[k]? = w.heap[k]?) : w'.ownsRow B e sz v n xs := by
  refine ⟨hr.1, ?_⟩
  rcases hr.2 with h' | ⟨g, cap, cur, h1, h2, h3, h4⟩
  · exact .inl h'
  · exact .inr ⟨g, cap, cur, h1, h2, (hk g h2 (Array.getElem?_eq_some_iff.1 h3).1).trans h3, h4⟩
theorem OutV.keepW {w w' : World} {B : Nat} {v : Value} {ls : List (List Int)} (h : OutV w B v ls) (hk : ∀ k, B ≤ k → k < w.heap.size → w'.heap[k]? = w.heap[k]?) : OutV w' B v ls := by
  obtain ⟨vs, hrow, hin⟩ := h
  refine ⟨vs, ownsRow_keepW hrow hk, fun j hj => ?_⟩
  obtain ⟨u, hu, hI⟩ := hin j hj
  exact ⟨u, hu, ownsRow_keepW hI hk⟩
set_option maxRecDepth 100000 in
set_option maxHeartbeats 4000000 in
theorem ckReset_any (L : Int) (rows : List (List Int)) (A : Option Addr) (cc : Nat) (w : World) (hg : Fit L rows) (hR : RowD w A rows) (hT : TabZ w) (hb : rows.length ≤ 9223372036854775807) :
    Calls Tryz.prog 8 #[.agg #[.int .i64 L, .slice A rows.length cc]] w fun e w' => RstP L rows A cc w' e ∧ Below w.heap.size w w' := by
  obtain ⟨Z, hZ⟩ : ∃ Z, w.heap.size = Z := ⟨_, rfl⟩
  have hB1 : Below Z w ((w.alloc (.cells #[.int .i64 L, .slice A rows.length cc] 24)).alloc (.cells #[.int .i64 0, .int .i64 0, .int .i64 0, .slice none 0 0, .int .i64 0, .slice none 0 0, .int .i64 0, .slice none 0 0, .int .i64 0, .int .i64 0, .slice none 0 0, .slice none 0 0, .int .i64 0, .slice none 0 0, .slice none 0 0, .slice none 0 0, .slice none 0 0, .slice none 0 0, .slice none 0 0] 42)) := by rw [← hZ]; exact ((Below.refl _ w).alloc (Nat.le_refl _) _).alloc (by simp) _
  have hs1 : (w.alloc (.cells #[.int .i64 L, .slice A rows.length cc] 24)).heap.size = Z + 1 := by simp [hZ]
  obtain ⟨CZ, hCZ⟩ : ∃ CZ : Array Value, CZ = (Crt.nil 0).cells := ⟨_, rfl⟩
  have hCs : CZ.size = 19 := by rw [hCZ]; rfl
  have hb1 : ((w.alloc (.cells #[.int .i64 L, .slice A rows.length cc] 24)).alloc (.cells #[.int .i64 0, .int .i64 0, .int .i64 0, .slice none 0 0, .int .i64 0, .slice none 0 0, .int .i64 0, .slice none 0 0, .int .i64 0, .int .i64 0, .slice none 0 0, .slice none 0 0, .int .i64 0, .slice none 0 0, .slice none 0 0, .slice none 0 0, .slice none 0 0, .slice none 0 0, .slice none 0 0] 42)).heap[Z + 1]? = some (.cells CZ 42 (0, 0)) := by rw [hCZ, ← hs1]; exact heap_alloc_new _ _
  have ha1 : ((w.alloc (.cells #[.int .i64 L, .slice A rows.length cc] 24)).alloc (.cells #[.int .i64 0, .int .i64 0, .int .i64 0, .slice none 0 0, .int .i64 0, .slice none 0 0, .int .i64 0, .slice none 0 0, .int .i64 0, .int .i64 0, .slice none 0 0, .slice none 0 0, .int .i64 0, .slice none 0 0, .slice none 0 0, .slice none 0 0, .slice none 0 0, .slice none 0 0, .slice none 0 0] 42)).heap[Z]? = some (.cells #[.int .i64 L, .slice A rows.length cc] 24 (0, 0)) := by rw [heap_alloc_old _ _ (by rw [hs1]; omega), ← hZ]; exact heap_alloc_new w _
  have HSh := hide (fun W (hW : Below Z w W) => zShortest_any L rows A cc W hg (hR.below (hZ ▸ hW : Below w.heap.size w W)) (hT.below (hZ ▸ hW : Below w.heap.size w W)) hb)
  have HLy := hide (fun W (hW : Below Z w W) => zLayers_any L rows A cc W hg (hR.below (hZ ▸ hW : Below w.heap.size w W)) (hT.below (hZ ▸ hW : Below w.heap.size w W)) hb)
  have HZ := hide hZ
  clear hZ hR hT hg hs1 hCZ
  go_enter Tryz.func8, Tryz.ntmps8
  go_wp2_with fail
  try rw [HZ.out]
  generalize ((w.alloc (.cells #[.int .i64 L, .slice A rows.length cc] 24)).alloc (.cells #[.int .i64 0, .int .i64 0, .int .i64 0, .slice none 0 0, .int .i64 0, .slice none 0 0, .int .i64 0, .slice none 0 0, .int .i64 0, .int .i64 0, .slice none 0 0, .slice none 0 0, .int .i64 0, .slice none 0 0, .slice none 0 0, .slice none 0 0, .slice none 0 0, .slice none 0 0, .slice none 0 0] 42)) = W1 at hB1 hb1 ha1 ⊢
  (with_reducible refine (HSh.out W1 hB1).mono ?_)
  rintro e W2 ⟨rfl, hB2⟩
  have hzl : Z + 1 < W1.heap.size := (Array.getElem?_eq_some_iff.1 hb1).1
  have hb2 := (hB2.block (Z + 1) hzl).trans hb1
  have ha2 := (hB2.block Z (by omega)).trans ha1
  have hB3 := hB1.trans (hB2.mono (by omega))
  clear hB1 hb1 ha1 hB2 hzl HSh
  unfold shrV
  by_cases hc : chkA L rows = 0
  · rw [if_pos hc]
    obtain ⟨s, hs⟩ : ∃ s, (fst44 rows L).1 = s := ⟨_, rfl⟩
    cases hf : (fst44 rows L).2
    · have HE := hide (show layE L rows = 20 by unfold layE; rw [if_pos hc, if_neg (by rw [hf]; decide)])
      have HB3 := hide hB3
      clear hc hf hB3 HLy
      have HB4 := HB3
      have hb3 := hb2
      go_wp2_with (refine wpList_store_rowTo (by rfl) 42 _ _ (by rfl) (by rfl) (Z + 1) (Crt.nil 0).cells (by rfl) (by rfl) 42 CZ hb3 (by kernel_rfl) hCs (by kernel_rfl) ?_)
      refine bodyPost_ret (ret_cert rfl _ _ (Z + 1) _ rfl (setRow_heap _ _ CZ _ 42 (0, 0) hb3) rfl) rfl ?_
      refine ⟨.inl ⟨by rw [HE.out]; decide, by rw [HE.out]; rfl⟩, ?_⟩
      rw [HZ.out]
      exact below_setRow HB4.out (by omega) _
    · have HE := hide (show layE L rows = 0 by unfold layE; rw [if_pos hc, if_pos hf])
      have HB3 := hide hB3
      have HL2 := hide (HLy.out W2 hB3)
      rw [HE.out] at HL2
      rw [hs]
      have HS := hide hs
      have a0 : W2.cell? ⟨Z, 0, none⟩ = some (.int .i64 L) := (cell_of_row _ _ 0 _ _ _ ha2).trans rfl
      have a1 : W2.cell? ⟨Z, 1, none⟩ = some (.slice A rows.length cc) := (cell_of_row _ _ 1 _ _ _ ha2).trans rfl
      clear hc hf hB3 HLy hs
      go_wp2_with fail
      (with_reducible refine HL2.out.mono ?_)
      rintro e W3 ⟨v, rfl, hO, hB4⟩
      obtain ⟨D, dc, rfl, hD, hd1, hd2⟩ := hO.rowW
      have hzl : Z + 1 < W2.heap.size := (Array.getElem?_eq_some_iff.1 hb2).1
      have hb3 := (hB4.block (Z + 1) hzl).trans hb2
      have ha3 := (hB4.block Z (by omega)).trans ha2
      have a0 : W3.cell? ⟨Z, 0, none⟩ = some (.int .i64 L) := (cell_of_row _ _ 0 _ _ _ ha3).trans rfl
      have a1 : W3.cell? ⟨Z, 1, none⟩ = some (.slice A rows.length cc) := (cell_of_row _ _ 1 _ _ _ ha3).trans rfl
      have hzl3 : Z + 1 < W3.heap.size := (Array.getElem?_eq_some_iff.1 hb3).1
      have hb4 := (heap_alloc_old W3 (.cells #[.string s] 9) hzl3).trans hb3
      have HI4 := hide (heap_alloc_new W3 (.cells #[.string s] 9))
      have HDr := hide hO
      have HB4 := hide (HB3.out.trans (hB4.mono (by omega)))
      have HZ1 := hide hzl
      have HZ3 := hide hzl3
      have HD1 := hide hd1
      have HD2 := hide hd2
      obtain ⟨m, hm⟩ : ∃ m, (layO L rows).length = m := ⟨_, rfl⟩
      have HM := hide hm
      rw [hm]
      clear hO hB4 hb2 ha2 hb3 ha3 hD hd1 hd2 hzl hzl3 hm HL2
      go_wp2_with (refine wpList_store_rowTo (by rfl) 42 _ _ (by rfl) (by rfl) (Z + 1) (crtRs L A rows.length cc W3.heap.size D m dc).cells (by rfl) (by rfl) 42 CZ hb4 (by kernel_rfl) hCs (by kernel_rfl) ?_)
      refine bodyPost_ret (ret_cert rfl _ _ (Z + 1) _ rfl (setRow_heap _ _ CZ _ 42 (0, 0) hb4) rfl) rfl ?_
      have hZ1 := HZ1.out
      have hZ3 := HZ3.out
      refine ⟨.inr ⟨HE.out, W3.heap.size, D, dc, by rw [HM.out]; rfl, ?_, ?_, HD1.out, HD2.out⟩, ?_⟩
      · rw [HS.out]
        exact rowT1 (t := 9) ((setRow_other _ _ _ _ (by omega)).trans HI4.out)
      · obtain ⟨D2, dc2, e2, hD2, _⟩ := (HDr.out.keepW (w' := (W3.alloc (.cells #[.string s] 9)).setRow (Z + 1) (crtRs L A rows.length cc W3.heap.size D m dc).cells) fun k hk hkl => (setRow_other _ _ _ _ (by omega)).trans (heap_alloc_old _ _ hkl)).rowW
        cases e2
        exact hD2
      · rw [HZ.out]
        exact below_setRow (HB4.out.alloc (by omega) _) (by omega) _
  · rw [if_neg hc]
    have HE := hide (show layE L rows = 1 by unfold layE; rw [if_neg hc])
    have HB3 := hide hB3
    clear hc hB3 HLy
    have HB4 := HB3
    have hb3 := hb2
    go_wp2_with (refine wpList_store_rowTo (by rfl) 42 _ _ (by rfl) (by rfl) (Z + 1) (Crt.nil 0).cells (by rfl) (by rfl) 42 CZ hb3 (by kernel_rfl) hCs (by kernel_rfl) ?_)
    refine bodyPost_ret (ret_cert rfl _ _ (Z + 1) _ rfl (setRow_heap _ _ CZ _ 42 (0, 0) hb3) rfl) rfl ?_
    refine ⟨.inl ⟨by rw [HE.out]; decide, by rw [HE.out]; rfl⟩, ?_⟩
    rw [HZ.out]
    exact below_setRow HB4.out (by omega) _
set_option maxRecDepth 100000 in
set_option maxHeartbeats 4000000 in
theorem r59Reset_any (L : Int) (rows : List (List Int)) (A : Option Addr) (cc : Nat) (w : World) (hg : Fit L rows) (hR : RowD w A rows) (hT : TabZ w) (hb : rows.length ≤ 9223372036854775807) :
    Calls Tryz.prog 9 #[.agg #[.int .i64 L, .slice A rows.length cc]] w fun e w' => RstP L rows A cc w' e ∧ Below w.heap.size w w' := by
  obtain ⟨Z, hZ⟩ : ∃ Z, w.heap.size = Z := ⟨_, rfl⟩
  have hB1 : Below Z w ((w.alloc (.cells #[.int .i64 L, .slice A rows.length cc] 24)).alloc (.cells #[.int .i64 0, .int .i64 0, .int .i64 0, .slice none 0 0, .int .i64 0, .slice none 0 0, .int .i64 0, .slice none 0 0, .int .i64 0, .int .i64 0, .slice none 0 0, .slice none 0 0, .int .i64 0, .slice none 0 0, .slice none 0 0, .slice none 0 0, .slice none 0 0, .slice none 0 0, .slice none 0 0] 42)) := by rw [← hZ]; exact ((Below.refl _ w).alloc (Nat.le_refl _) _).alloc (by simp) _
  have hs1 : (w.alloc (.cells #[.int .i64 L, .slice A rows.length cc] 24)).heap.size = Z + 1 := by simp [hZ]
  obtain ⟨CZ, hCZ⟩ : ∃ CZ : Array Value, CZ = (Crt.nil 0).cells := ⟨_, rfl⟩
  have hCs : CZ.size = 19 := by rw [hCZ]; rfl
  have hb1 : ((w.alloc (.cells #[.int .i64 L, .slice A rows.length cc] 24)).alloc (.cells #[.int .i64 0, .int .i64 0, .int .i64 0, .slice none 0 0, .int .i64 0, .slice none 0 0, .int .i64 0, .slice none 0 0, .int .i64 0, .int .i64 0, .slice none 0 0, .slice none 0 0, .int .i64 0, .slice none 0 0, .slice none 0 0, .slice none 0 0, .slice none 0 0, .slice none 0 0, .slice none 0 0] 42)).heap[Z + 1]? = some (.cells CZ 42 (0, 0)) := by rw [hCZ, ← hs1]; exact heap_alloc_new _ _
  have ha1 : ((w.alloc (.cells #[.int .i64 L, .slice A rows.length cc] 24)).alloc (.cells #[.int .i64 0, .int .i64 0, .int .i64 0, .slice none 0 0, .int .i64 0, .slice none 0 0, .int .i64 0, .slice none 0 0, .int .i64 0, .int .i64 0, .slice none 0 0, .slice none 0 0, .int .i64 0, .slice none 0 0, .slice none 0 0, .slice none 0 0, .slice none 0 0, .slice none 0 0, .slice none 0 0] 42)).heap[Z]? = some (.cells #[.int .i64 L, .slice A rows.length cc] 24 (0, 0)) := by rw [heap_alloc_old _ _ (by rw [hs1]; omega), ← hZ]; exact heap_alloc_new w _
  have HSh := hide (fun W (hW : Below Z w W) => zrShortest_any L rows A cc W hg (hR.below (hZ ▸ hW : Below w.heap.size w W)) (hT.below (hZ ▸ hW : Below w.heap.size w W)) hb)
  have HLy := hide (fun W (hW : Below Z w W) => zrLayers_any L rows A cc W hg (hR.below (hZ ▸ hW : Below w.heap.size w W)) (hT.below (hZ ▸ hW : Below w.heap.size w W)) hb)
  have HNn := hide (fun r W => r59None_any r W)
  have HZ := hide hZ
  clear hZ hR hT hg hs1 hCZ
  go_enter Tryz.func9, Tryz.ntmps9
  go_wp2_with fail
  try rw [HZ.out]
  generalize ((w.alloc (.cells #[.int .i64 L, .slice A rows.length cc] 24)).alloc (.cells #[.int .i64 0, .int .i64 0, .int .i64 0, .slice none 0 0, .int .i64 0, .slice none 0 0, .int .i64 0, .slice none 0 0, .int .i64 0, .int .i64 0, .slice none 0 0, .slice none 0 0, .int .i64 0, .slice none 0 0, .slice none 0 0, .slice none 0 0, .slice none 0 0, .slice none 0 0, .slice none 0 0] 42)) = W1 at hB1 hb1 ha1 ⊢
  (with_reducible refine (HSh.out W1 hB1).mono ?_)
  rintro e W2 ⟨rfl, hB2⟩
  have hzl : Z + 1 < W1.heap.size := (Array.getElem?_eq_some_iff.1 hb1).1
  have hb2 := (hB2.block (Z + 1) hzl).trans hb1
  have ha2 := (hB2.block Z (by omega)).trans ha1
  have hB3 := hB1.trans (hB2.mono (by omega))
  clear hB1 hb1 ha1 hB2 hzl HSh
  unfold shrV
  by_cases hc : chkA L rows = 0
  · rw [if_pos hc]
    obtain ⟨s, hs⟩ : ∃ s, (fst44 rows L).1 = s := ⟨_, rfl⟩
    cases hf : (fst44 rows L).2
    · have HE := hide (show layE L rows = 20 by unfold layE; rw [if_pos hc, if_neg (by rw [hf]; decide)])
      have HB3 := hide hB3
      clear hc hf hB3 HLy
      go_wp2_with fail
      (with_reducible refine (HNn.out _ _).mono ?_)
      rintro e W6 ⟨rfl, hB6⟩
      have hzl : Z + 1 < W2.heap.size := (Array.getElem?_eq_some_iff.1 hb2).1
      have hb3 := (hB6.block (Z + 1) hzl).trans hb2
      have HB4 := hide (HB3.out.trans (hB6.mono (by omega)))
      clear hB6 hb2 hzl
      go_wp2_with (refine wpList_store_rowTo (by rfl) 42 _ _ (by rfl) (by rfl) (Z + 1) (Crt.nil 0).cells (by rfl) (by rfl) 42 CZ hb3 (by kernel_rfl) hCs (by kernel_rfl) ?_)
      refine bodyPost_ret (ret_cert rfl _ _ (Z + 1) _ rfl (setRow_heap _ _ CZ _ 42 (0, 0) hb3) rfl) rfl ?_
      refine ⟨.inl ⟨by rw [HE.out]; decide, by rw [HE.out]; rfl⟩, ?_⟩
      rw [HZ.out]
      exact below_setRow HB4.out (by omega) _
    · have HE := hide (show layE L rows = 0 by unfold layE; rw [if_pos hc, if_pos hf])
      have HB3 := hide hB3
      have HL2 := hide (HLy.out W2 hB3)
      rw [HE.out] at HL2
      rw [hs]
      have HS := hide hs
      have a0 : W2.cell? ⟨Z, 0, none⟩ = some (.int .i64 L) := (cell_of_row _ _ 0 _ _ _ ha2).trans rfl
      have a1 : W2.cell? ⟨Z, 1, none⟩ = some (.slice A rows.length cc) := (cell_of_row _ _ 1 _ _ _ ha2).trans rfl
      clear hc hf hB3 HLy hs
      go_wp2_with fail
      (with_reducible refine HL2.out.mono ?_)
      rintro e W3 ⟨v, rfl, hO, hB4⟩
      obtain ⟨D, dc, rfl, hD, hd1, hd2⟩ := hO.rowW
      have hzl : Z + 1 < W2.heap.size := (Array.getElem?_eq_some_iff.1 hb2).1
      have hb3 := (hB4.block (Z + 1) hzl).trans hb2
      have ha3 := (hB4.block Z (by omega)).trans ha2
      have a0 : W3.cell? ⟨Z, 0, none⟩ = some (.int .i64 L) := (cell_of_row _ _ 0 _ _ _ ha3).trans rfl
      have a1 : W3.cell? ⟨Z, 1, none⟩ = some (.slice A rows.length cc) := (cell_of_row _ _ 1 _ _ _ ha3).trans rfl
      have hzl3 : Z + 1 < W3.heap.size := (Array.getElem?_eq_some_iff.1 hb3).1
      have hb4 := (heap_alloc_old W3 (.cells #[.string s] 9) hzl3).trans hb3
      have HI4 := hide (heap_alloc_new W3 (.cells #[.string s] 9))
      have HDr := hide hO
      have HB4 := hide (HB3.out.trans (hB4.mono (by omega)))
      have HZ1 := hide hzl
      have HZ3 := hide hzl3
      have HD1 := hide hd1
      have HD2 := hide hd2
      obtain ⟨m, hm⟩ : ∃ m, (layO L rows).length = m := ⟨_, rfl⟩
      have HM := hide hm
      rw [hm]
      clear hO hB4 hb2 ha2 hb3 ha3 hD hd1 hd2 hzl hzl3 hm HL2
      go_wp2_with (refine wpList_store_rowTo (by rfl) 42 _ _ (by rfl) (by rfl) (Z + 1) (crtRs L A rows.length cc W3.heap.size D m dc).cells (by rfl) (by rfl) 42 CZ hb4 (by kernel_rfl) hCs (by kernel_rfl) ?_)
      refine bodyPost_ret (ret_cert rfl _ _ (Z + 1) _ rfl (setRow_heap _ _ CZ _ 42 (0, 0) hb4) rfl) rfl ?_
      have hZ1 := HZ1.out
      have hZ3 := HZ3.out
      refine ⟨.inr ⟨HE.out, W3.heap.size, D, dc, by rw [HM.out]; rfl, ?_, ?_, HD1.out, HD2.out⟩, ?_⟩
      · rw [HS.out]
        exact rowT1 (t := 9) ((setRow_other _ _ _ _ (by omega)).trans HI4.out)
      · obtain ⟨D2, dc2, e2, hD2, _⟩ := (HDr.out.keepW (w' := (W3.alloc (.cells #[.string s] 9)).setRow (Z + 1) (crtRs L A rows.length cc W3.heap.size D m dc).cells) fun k hk hkl => (setRow_other _ _ _ _ (by omega)).trans (heap_alloc_old _ _ hkl)).rowW
        cases e2
        exact hD2
      · rw [HZ.out]
        exact below_setRow (HB4.out.alloc (by omega) _) (by omega) _
  · rw [if_neg hc]
    have HE := hide (show layE L rows = 1 by unfold layE; rw [if_neg hc])
    have HB3 := hide hB3
    clear hc hB3 HLy
    go_wp2_with fail
    (with_reducible refine (HNn.out _ _).mono ?_)
    rintro e W6 ⟨rfl, hB6⟩
    have hzl : Z + 1 < W2.heap.size := (Array.getElem?_eq_some_iff.1 hb2).1
    have hb3 := (hB6.block (Z + 1) hzl).trans hb2
    have HB4 := hide (HB3.out.trans (hB6.mono (by omega)))
    clear hB6 hb2 hzl
    go_wp2_with (refine wpList_store_rowTo (by rfl) 42 _ _ (by rfl) (by rfl) (Z + 1) (Crt.nil 0).cells (by rfl) (by rfl) 42 CZ hb3 (by kernel_rfl) hCs (by kernel_rfl) ?_)
    refine bodyPost_ret (ret_cert rfl _ _ (Z + 1) _ rfl (setRow_heap _ _ CZ _ 42 (0, 0) hb3) rfl) rfl ?_
    refine ⟨.inl ⟨by rw [HE.out]; decide, by rw [HE.out]; rfl⟩, ?_⟩
    rw [HZ.out]
    exact below_setRow HB4.out (by omega) _
end Go.Proofs.YtpppbkdbpbpinaaGreatDoor

/- grooveref59.Same: two certificates whose machine, words, rows, indices are equal, and that have no more. -/
set_option linter.unusedVariables false
namespace Go.Proofs.YtpppbkdbpbpinaaGreatDoor
open Go.RowKit
set_option maxHeartbeats 1000000 in
theorem r59Gr_nil (l s : Int) (A A' : Option Addr) (c c' : Nat) (w : World) :
    Calls Tryz.prog 34 #[.agg #[.int .i64 l, .int .i64 s, .slice A 0 c], .agg #[.int .i64 l, .int .i64 s, .slice A' 0 c']] w fun e w' => e = .returned (.bool true) ∧
      w' = (w.alloc (.cells #[.int .i64 l, .int .i64 s, .slice A 0 c] 32)).alloc (.cells #[.int .i64 l, .int .i64 s, .slice A' 0 c'] 32) := by
  have h1 : (l != l) = false := by simp
  have h2 : (s != s) = false := by simp
  go_enter Tryz.func34, Tryz.ntmps34
  go_wp2
  go_loopw [5] (fun iv wr => iv = .int .i64 0 ∧ wr = (w.alloc (.cells #[.int .i64 l, .int .i64 s, .slice A 0 c] 32)).alloc (.cells #[.int .i64 l, .int .i64 s, .slice A' 0 c'] 32)) (fun _ _ => 0)
  case atStart => exact ⟨rfl, rfl⟩
  case round =>
    obtain ⟨rfl, rfl⟩ := hrel
    go_wp2
    go_ret
    exact ⟨rfl, rfl⟩
set_option maxHeartbeats 1000000 in
theorem r59Ints_nil (A A' : Option Addr) (c c' : Nat) (w : World) :
    Calls Tryz.prog 36 #[.slice A 0 c, .slice A' 0 c'] w fun e w' => e = .returned (.bool true) ∧ w' = w := by
  go_enter Tryz.func36, Tryz.ntmps36
  go_wp2
  go_loopg [5] 0 (fun gk iv wr => gk = 0 ∧ iv = .int .i64 0 ∧ wr = w)
  case atStart => exact ⟨rfl, rfl, rfl⟩
  case round =>
    obtain ⟨rfl, rfl, rfl⟩ := hrel
    go_wp2
    go_ret
    exact ⟨rfl, rfl⟩
set_option maxHeartbeats 1000000 in
theorem r59Tab_nil (A A' : Option Addr) (c c' : Nat) (w : World) :
    Calls Tryz.prog 38 #[.slice A 0 c, .slice A' 0 c'] w fun e w' => e = .returned (.bool true) ∧ w' = w := by
  go_enter Tryz.func38, Tryz.ntmps38
  go_wp2
  go_loopg [5] 0 (fun gk iv wr => gk = 0 ∧ iv = .int .i64 0 ∧ wr = w)
  case atStart => exact ⟨rfl, rfl, rfl⟩
  case round =>
    obtain ⟨rfl, rfl, rfl⟩ := hrel
    go_wp2
    go_ret
    exact ⟨rfl, rfl⟩
set_option maxHeartbeats 1000000 in
theorem rI07_nil (A A' : Option Addr) (c c' : Nat) (w : World) :
    Calls Tryz.prog 37 #[.slice A 0 c, .slice A' 0 c'] w fun e w' => e = .returned (.bool true) ∧ w' = w := by
  go_enter Tryz.func37, Tryz.ntmps37
  go_wp2
  go_loopg [5] 0 (fun gk iv wr => gk = 0 ∧ iv = .int .i64 0 ∧ wr = w)
  case atStart => exact ⟨rfl, rfl, rfl⟩
  case round =>
    obtain ⟨rfl, rfl, rfl⟩ := hrel
    go_wp2
    go_ret
    exact ⟨rfl, rfl⟩
set_option maxHeartbeats 1000000 in
theorem rS07_nil (A A' : Option Addr) (c c' : Nat) (w : World) :
    Calls Tryz.prog 32 #[.slice A 0 c, .slice A' 0 c'] w fun e w' => e = .returned (.bool true) ∧ w' = w := by
  go_enter Tryz.func32, Tryz.ntmps32
  go_wp2
  go_loopg [5] 0 (fun gk iv wr => gk = 0 ∧ iv = .int .i64 0 ∧ wr = w)
  case atStart => exact ⟨rfl, rfl, rfl⟩
  case round =>
    obtain ⟨rfl, rfl, rfl⟩ := hrel
    go_wp2
    go_ret
    exact ⟨rfl, rfl⟩
def prfV (l s i : Int) (A B R : Option Addr) (c d r : Nat) : Array Value := #[.int .i64 l, .int .i64 s, .slice A 0 c, .slice B 0 d, .int .i64 i, .slice R 0 r]
set_option maxHeartbeats 2000000 in
theorem r59Prf_nil (l s i : Int) (A A' B B' R R' : Option Addr) (c c' d d' r r' : Nat) (w : World) :
    Calls Tryz.prog 35 #[.agg #[.int .i64 l, .int .i64 s, .slice A 0 c, .slice B 0 d, .int .i64 i, .slice R 0 r], .agg #[.int .i64 l, .int .i64 s, .slice A' 0 c', .slice B' 0 d', .int .i64 i, .slice R' 0 r']] w fun e w' => e = .returned (.bool true) ∧
      w' = (((w.alloc (.cells #[.int .i64 l, .int .i64 s, .slice A 0 c, .slice B 0 d, .int .i64 i, .slice R 0 r] 38)).alloc (.cells #[.int .i64 l, .int .i64 s, .slice A' 0 c', .slice B' 0 d', .int .i64 i, .slice R' 0 r'] 38)).alloc (.cells #[.int .i64 l, .int .i64 s, .slice A 0 c] 32)).alloc (.cells #[.int .i64 l, .int .i64 s, .slice A' 0 c'] 32) := by
  have h1 : (i != i) = false := by simp
  have HG := hide (fun W => r59Gr_nil l s A A' c c' W)
  have HI := hide (fun W => rI07_nil B B' d d' W)
  go_enter Tryz.func35, Tryz.ntmps35
  go_wp2_with (first
    | (go_at_call 34; (with_reducible refine (HG.out _).mono ?_); rintro e w1 ⟨rfl, rfl⟩)
    | (go_at_call 37; (with_reducible refine (HI.out _).mono ?_); rintro e w2 ⟨rfl, rfl⟩))
  go_loopw [5] (fun iv wr => iv = .int .i64 0 ∧ wr = (((w.alloc (.cells #[.int .i64 l, .int .i64 s, .slice A 0 c, .slice B 0 d, .int .i64 i, .slice R 0 r] 38)).alloc (.cells #[.int .i64 l, .int .i64 s, .slice A' 0 c', .slice B' 0 d', .int .i64 i, .slice R' 0 r'] 38)).alloc (.cells #[.int .i64 l, .int .i64 s, .slice A 0 c] 32)).alloc (.cells #[.int .i64 l, .int .i64 s, .slice A' 0 c'] 32)) (fun _ _ => 0)
  case atStart => exact ⟨rfl, rfl⟩
  case round =>
    obtain ⟨rfl, rfl⟩ := hrel
    go_wp2
    go_ret
    exact ⟨rfl, rfl⟩
end Go.Proofs.YtpppbkdbpbpinaaGreatDoor

/- grooveref59.Same at two certificates whose machines, indices, words and rows are equal, and that have no more (printed by wip/mk_rse.py). -/
set_option linter.unusedVariables false
namespace Go.Proofs.YtpppbkdbpbpinaaGreatDoor
open Go.RowKit
/-- a certificate with a machine, indices, words, rows at most -/
def crtG (k ml : Int) (M I W R : Option Addr) (mn mc ixn ic wn wc rn rc : Nat) : Crt := ⟨k, 0, 0, .nil, 0, .nil, ml, ⟨M, mn, mc⟩, 0, 0, .nil, .nil, 0, .nil, .nil, ⟨I, ixn, ic⟩, ⟨W, wn, wc⟩, ⟨R, rn, rc⟩, .nil⟩
theorem Below.of_drewN {w w' : World} (h : ∃ q, w' = w.drewN q) : Below w.heap.size w w' := by obtain ⟨q, rfl⟩ := h; exact belowN (Below.refl _ _) q
set_option maxRecDepth 100000 in
set_option maxHeartbeats 4000000 in
theorem r59Same_any (k ml : Int) (M I W R M' I' W' R' : Option Addr) (mc ic wc rc mc' ic' wc' rc' : Nat) (mr : List (List Int)) (ix : List Int) (ws : List ByteArray) (ro : List (List Int)) (w : World)
    (hm : RowD w M mr) (hm' : RowD w M' mr) (hi : RowI w I ix) (hi' : RowI w I' ix) (hw : RowT w W ws) (hw' : RowT w W' ws) (hr : RowD w R ro) (hr' : RowD w R' ro)
    (b1 : mr.length ≤ 9223372036854775807) (b2 : ∀ x ∈ mr, x.length ≤ 9223372036854775807) (b3 : ix.length ≤ 9223372036854775807) (b4 : ws.length ≤ 9223372036854775807) (b5 : ro.length ≤ 9223372036854775807) (b6 : ∀ x ∈ ro, x.length ≤ 9223372036854775807) :
    Calls Tryz.prog 12 #[.agg (crtG k ml M I W R mr.length mc ix.length ic ws.length wc ro.length rc).cells, .agg (crtG k ml M' I' W' R' mr.length mc' ix.length ic' ws.length wc' ro.length rc').cells] w fun e w' => e = .returned (.bool true) ∧ Below w.heap.size w w' := by
  obtain ⟨Z, hZ⟩ : ∃ Z, w.heap.size = Z := ⟨_, rfl⟩
  have lf : ∀ W, Below Z w W → Below w.heap.size w W := fun W h => hZ ▸ h
  have H1 := hide (fun W => (rS07_nil none none 0 0 W).mono (R' := fun e w' => e = .returned (.bool true) ∧ Below W.heap.size W w') fun e w' h => ⟨h.1, h.2 ▸ Below.refl _ _⟩)
  have H2 := hide (fun V (h : Below Z w V) => (r59Rows_any mr mr M M' mc mc' V (hm.below (lf V h)) (hm'.below (lf V h)) b1 b1 b2 b2).mono (R' := fun e w' => e = .returned (.bool true) ∧ Below V.heap.size V w') fun e w' h => ⟨by rw [h.1, decide_eq_true rfl], Below.of_drewN h.2⟩)
  have H3 := hide (fun W => (r59Gr_nil 0 0 none none 0 0 W).mono (R' := fun e w' => e = .returned (.bool true) ∧ Below W.heap.size W w') fun e w' h => ⟨h.1, h.2 ▸ ((Below.refl _ _).alloc (Nat.le_refl _) _).alloc (by simp) _⟩)
  have H4 := hide (fun W => (r59Prf_nil 0 0 0 none none none none none none 0 0 0 0 0 0 W).mono (R' := fun e w' => e = .returned (.bool true) ∧ Below W.heap.size W w') fun e w' h => ⟨h.1, h.2 ▸ ((((Below.refl _ _).alloc (Nat.le_refl _) _).alloc (by simp) _).alloc (by simp; omega) _).alloc (by simp; omega) _⟩)
  have H5 := hide (fun W => (r59Ints_nil none none 0 0 W).mono (R' := fun e w' => e = .returned (.bool true) ∧ Below W.heap.size W w') fun e w' h => ⟨h.1, h.2 ▸ Below.refl _ _⟩)
  have H6 := hide (fun V (h : Below Z w V) => (rI07_any ix ix I I' ic ic' V (hi.below (lf V h)) (hi'.below (lf V h)) b3 b3).mono (R' := fun e w' => e = .returned (.bool true) ∧ Below V.heap.size V w') fun e w' h => ⟨by rw [h.1, decide_eq_true rfl], Below.of_drewN h.2⟩)
  have H7 := hide (fun V (h : Below Z w V) => (rS07_any ws ws W W' wc wc' V (hw.below (lf V h)) (hw'.below (lf V h)) b4 b4).mono (R' := fun e w' => e = .returned (.bool true) ∧ Below V.heap.size V w') fun e w' h => ⟨by rw [h.1, decide_eq_true rfl], Below.of_drewN h.2⟩)
  have H8 := hide (fun V (h : Below Z w V) => (r59Rows_any ro ro R R' rc rc' V (hr.below (lf V h)) (hr'.below (lf V h)) b5 b5 b6 b6).mono (R' := fun e w' => e = .returned (.bool true) ∧ Below V.heap.size V w') fun e w' h => ⟨by rw [h.1, decide_eq_true rfl], Below.of_drewN h.2⟩)
  have H9 := hide (fun W => (r59Tab_nil none none 0 0 W).mono (R' := fun e w' => e = .returned (.bool true) ∧ Below W.heap.size W w') fun e w' h => ⟨h.1, h.2 ▸ Below.refl _ _⟩)
  clear hm hm' hi hi' hw hw' hr hr' b1 b2 b3 b4 b5 b6 lf
  obtain ⟨n1, hn1⟩ : ∃ n, mr.length = n := ⟨_, rfl⟩
  obtain ⟨n2, hn2⟩ : ∃ n, ix.length = n := ⟨_, rfl⟩
  obtain ⟨n3, hn3⟩ : ∃ n, ws.length = n := ⟨_, rfl⟩
  obtain ⟨n4, hn4⟩ : ∃ n, ro.length = n := ⟨_, rfl⟩
  rw [hn1] at H2
  rw [hn2] at H6
  rw [hn3] at H7
  rw [hn4] at H8
  rw [hn1, hn2, hn3, hn4]
  clear hn1 hn2 hn3 hn4
  obtain ⟨CX, hCX⟩ : ∃ CX, (crtG k ml M I W R n1 mc n2 ic n3 wc n4 rc).cells = CX := ⟨_, rfl⟩
  obtain ⟨CY, hCY⟩ : ∃ CY, (crtG k ml M' I' W' R' n1 mc' n2 ic' n3 wc' n4 rc').cells = CY := ⟨_, rfl⟩
  have hB0 : Below Z w ((w.alloc (.cells CX 42)).alloc (.cells CY 42)) := by rw [← hZ]; exact ((Below.refl _ w).alloc (Nat.le_refl _) _).alloc (by simp) _
  have hs0 : (w.alloc (.cells CX 42)).heap.size = Z + 1 := by simp [hZ]
  have x0 : ((w.alloc (.cells CX 42)).alloc (.cells CY 42)).heap[Z]? = some (.cells CX 42 (0, 0)) := by rw [heap_alloc_old _ _ (by rw [hs0]; omega), ← hZ]; exact heap_alloc_new w _
  have y0 : ((w.alloc (.cells CX 42)).alloc (.cells CY 42)).heap[Z + 1]? = some (.cells CY 42 (0, 0)) := by rw [← hs0]; exact heap_alloc_new _ _
  have z0 : Z + 1 < ((w.alloc (.cells CX 42)).alloc (.cells CY 42)).heap.size := (Array.getElem?_eq_some_iff.1 y0).1
  have vx0 : CX[0]? = some (.int .i64 k) := by rw [← hCX]; rfl
  have vy0 : CY[0]? = some (.int .i64 k) := by rw [← hCY]; rfl
  have vx1 : CX[1]? = some (.int .i64 0) := by rw [← hCX]; rfl
  have vy1 : CY[1]? = some (.int .i64 0) := by rw [← hCY]; rfl
  have vx2 : CX[2]? = some (.int .i64 0) := by rw [← hCX]; rfl
  have vy2 : CY[2]? = some (.int .i64 0) := by rw [← hCY]; rfl
  have vx3 : CX[3]? = some (.slice none 0 0) := by rw [← hCX]; rfl
  have vy3 : CY[3]? = some (.slice none 0 0) := by rw [← hCY]; rfl
  have vx4 : CX[4]? = some (.int .i64 0) := by rw [← hCX]; rfl
  have vy4 : CY[4]? = some (.int .i64 0) := by rw [← hCY]; rfl
  have vx5 : CX[5]? = some (.slice none 0 0) := by rw [← hCX]; rfl
  have vy5 : CY[5]? = some (.slice none 0 0) := by rw [← hCY]; rfl
  have vx6 : CX[6]? = some (.int .i64 ml) := by rw [← hCX]; rfl
  have vy6 : CY[6]? = some (.int .i64 ml) := by rw [← hCY]; rfl
  have vx7 : CX[7]? = some (.slice M n1 mc) := by rw [← hCX]; rfl
  have vy7 : CY[7]? = some (.slice M' n1 mc') := by rw [← hCY]; rfl
  have vx8 : CX[8]? = some (.int .i64 0) := by rw [← hCX]; rfl
  have vy8 : CY[8]? = some (.int .i64 0) := by rw [← hCY]; rfl
  have vx9 : CX[9]? = some (.int .i64 0) := by rw [← hCX]; rfl
  have vy9 : CY[9]? = some (.int .i64 0) := by rw [← hCY]; rfl
  have vx10 : CX[10]? = some (.slice none 0 0) := by rw [← hCX]; rfl
  have vy10 : CY[10]? = some (.slice none 0 0) := by rw [← hCY]; rfl
  have vx11 : CX[11]? = some (.slice none 0 0) := by rw [← hCX]; rfl
  have vy11 : CY[11]? = some (.slice none 0 0) := by rw [← hCY]; rfl
  have vx12 : CX[12]? = some (.int .i64 0) := by rw [← hCX]; rfl
  have vy12 : CY[12]? = some (.int .i64 0) := by rw [← hCY]; rfl
  have vx13 : CX[13]? = some (.slice none 0 0) := by rw [← hCX]; rfl
  have vy13 : CY[13]? = some (.slice none 0 0) := by rw [← hCY]; rfl
  have vx14 : CX[14]? = some (.slice none 0 0) := by rw [← hCX]; rfl
  have vy14 : CY[14]? = some (.slice none 0 0) := by rw [← hCY]; rfl
  have vx15 : CX[15]? = some (.slice I n2 ic) := by rw [← hCX]; rfl
  have vy15 : CY[15]? = some (.slice I' n2 ic') := by rw [← hCY]; rfl
  have vx16 : CX[16]? = some (.slice W n3 wc) := by rw [← hCX]; rfl
  have vy16 : CY[16]? = some (.slice W' n3 wc') := by rw [← hCY]; rfl
  have vx17 : CX[17]? = some (.slice R n4 rc) := by rw [← hCX]; rfl
  have vy17 : CY[17]? = some (.slice R' n4 rc') := by rw [← hCY]; rfl
  have vx18 : CX[18]? = some (.slice none 0 0) := by rw [← hCX]; rfl
  have vy18 : CY[18]? = some (.slice none 0 0) := by rw [← hCY]; rfl
  have HZ := hide hZ
  have hk : (k == k) = true := by simp
  have hml : (ml == ml) = true := by simp
  have HX0 := hide vx0
  have HY0 := hide vy0
  have HX1 := hide vx1
  have HY1 := hide vy1
  have HX2 := hide vx2
  have HY2 := hide vy2
  have HX3 := hide vx3
  have HY3 := hide vy3
  have HX4 := hide vx4
  have HY4 := hide vy4
  have HX5 := hide vx5
  have HY5 := hide vy5
  have HX6 := hide vx6
  have HY6 := hide vy6
  have HX7 := hide vx7
  have HY7 := hide vy7
  have HX8 := hide vx8
  have HY8 := hide vy8
  have HX9 := hide vx9
  have HY9 := hide vy9
  have HX10 := hide vx10
  have HY10 := hide vy10
  have HX11 := hide vx11
  have HY11 := hide vy11
  have HX12 := hide vx12
  have HY12 := hide vy12
  have HX13 := hide vx13
  have HY13 := hide vy13
  have HX14 := hide vx14
  have HY14 := hide vy14
  have HX15 := hide vx15
  have HY15 := hide vy15
  have HX16 := hide vx16
  have HY16 := hide vy16
  have HX17 := hide vx17
  have HY17 := hide vy17
  have HX18 := hide vx18
  have HY18 := hide vy18
  clear hZ hs0 vx0 vy0 vx1 vy1 vx2 vy2 vx3 vy3 vx4 vy4 vx5 vy5 vx6 vy6 vx7 vy7 vx8 vy8 vx9 vy9 vx10 vy10 vx11 vy11 vx12 vy12 vx13 vy13 vx14 vy14 vx15 vy15 vx16 vy16 vx17 vy17 vx18 vy18
  rw [hCX, hCY]
  clear hCX hCY
  have cx4 : ((w.alloc (.cells CX 42)).alloc (.cells CY 42)).cell? ⟨w.heap.size, 4, none⟩ = some (.int .i64 0) := by rw [HZ.out]; exact (cell_of_row _ _ 4 _ _ _ x0).trans HX4.out
  have cy4 : ((w.alloc (.cells CX 42)).alloc (.cells CY 42)).cell? ⟨w.heap.size + 1, 4, none⟩ = some (.int .i64 0) := by rw [HZ.out]; exact (cell_of_row _ _ 4 _ _ _ y0).trans HY4.out
  have cx5 : ((w.alloc (.cells CX 42)).alloc (.cells CY 42)).cell? ⟨w.heap.size, 5, none⟩ = some (.slice none 0 0) := by rw [HZ.out]; exact (cell_of_row _ _ 5 _ _ _ x0).trans HX5.out
  have cy5 : ((w.alloc (.cells CX 42)).alloc (.cells CY 42)).cell? ⟨w.heap.size + 1, 5, none⟩ = some (.slice none 0 0) := by rw [HZ.out]; exact (cell_of_row _ _ 5 _ _ _ y0).trans HY5.out
  go_enter Tryz.func12, Tryz.ntmps12
  go_wp2_with (fail)
  try rw [HZ.out]
  generalize (w.alloc (.cells CX 42)).alloc (.cells CY 42) = W0 at hB0 x0 y0 z0 cx4 cx5 cy4 cy5 ⊢
  (with_reducible refine (H1.out W0).mono ?_)
  rintro e W1 ⟨rfl, hb1⟩
  have x1 := (hb1.block Z (by omega)).trans x0
  have y1 := (hb1.block (Z + 1) z0).trans y0
  have z1 := Nat.lt_of_lt_of_le z0 hb1.size
  have hB1 := hB0.trans (hb1.mono (by omega))
  clear cx4 cy4 cx5 cy5 x0 y0 z0 hb1 hB0
  have cx6 : W1.cell? ⟨Z, 6, none⟩ = some (.int .i64 ml) := (cell_of_row _ _ 6 _ _ _ x1).trans HX6.out
  have cy6 : W1.cell? ⟨Z + 1, 6, none⟩ = some (.int .i64 ml) := (cell_of_row _ _ 6 _ _ _ y1).trans HY6.out
  have cx7 : W1.cell? ⟨Z, 7, none⟩ = some (.slice M n1 mc) := (cell_of_row _ _ 7 _ _ _ x1).trans HX7.out
  have cy7 : W1.cell? ⟨Z + 1, 7, none⟩ = some (.slice M' n1 mc') := (cell_of_row _ _ 7 _ _ _ y1).trans HY7.out
  go_wp2_with (fail)
  (with_reducible refine (H2.out W1 hB1).mono ?_)
  rintro e W2 ⟨rfl, hb2⟩
  have x2 := (hb2.block Z (by omega)).trans x1
  have y2 := (hb2.block (Z + 1) z1).trans y1
  have z2 := Nat.lt_of_lt_of_le z1 hb2.size
  have hB2 := hB1.trans (hb2.mono (by omega))
  clear cx6 cy6 cx7 cy7 x1 y1 z1 hb2 hB1
  have cx0 : W2.cell? ⟨Z, 0, none⟩ = some (.int .i64 k) := (cell_of_row _ _ 0 _ _ _ x2).trans HX0.out
  have cy0 : W2.cell? ⟨Z + 1, 0, none⟩ = some (.int .i64 k) := (cell_of_row _ _ 0 _ _ _ y2).trans HY0.out
  have cx1 : W2.cell? ⟨Z, 1, none⟩ = some (.int .i64 0) := (cell_of_row _ _ 1 _ _ _ x2).trans HX1.out
  have cy1 : W2.cell? ⟨Z + 1, 1, none⟩ = some (.int .i64 0) := (cell_of_row _ _ 1 _ _ _ y2).trans HY1.out
  have cx2 : W2.cell? ⟨Z, 2, none⟩ = some (.int .i64 0) := (cell_of_row _ _ 2 _ _ _ x2).trans HX2.out
  have cy2 : W2.cell? ⟨Z + 1, 2, none⟩ = some (.int .i64 0) := (cell_of_row _ _ 2 _ _ _ y2).trans HY2.out
  have cx3 : W2.cell? ⟨Z, 3, none⟩ = some (.slice none 0 0) := (cell_of_row _ _ 3 _ _ _ x2).trans HX3.out
  have cy3 : W2.cell? ⟨Z + 1, 3, none⟩ = some (.slice none 0 0) := (cell_of_row _ _ 3 _ _ _ y2).trans HY3.out
  go_wp2_with (fail)
  (with_reducible refine (H3.out W2).mono ?_)
  rintro e W3 ⟨rfl, hb3⟩
  have x3 := (hb3.block Z (by omega)).trans x2
  have y3 := (hb3.block (Z + 1) z2).trans y2
  have z3 := Nat.lt_of_lt_of_le z2 hb3.size
  have hB3 := hB2.trans (hb3.mono (by omega))
  clear cx0 cy0 cx1 cy1 cx2 cy2 cx3 cy3 x2 y2 z2 hb3 hB2
  have cx8 : W3.cell? ⟨Z, 8, none⟩ = some (.int .i64 0) := (cell_of_row _ _ 8 _ _ _ x3).trans HX8.out
  have cy8 : W3.cell? ⟨Z + 1, 8, none⟩ = some (.int .i64 0) := (cell_of_row _ _ 8 _ _ _ y3).trans HY8.out
  have cx9 : W3.cell? ⟨Z, 9, none⟩ = some (.int .i64 0) := (cell_of_row _ _ 9 _ _ _ x3).trans HX9.out
  have cy9 : W3.cell? ⟨Z + 1, 9, none⟩ = some (.int .i64 0) := (cell_of_row _ _ 9 _ _ _ y3).trans HY9.out
  have cx10 : W3.cell? ⟨Z, 10, none⟩ = some (.slice none 0 0) := (cell_of_row _ _ 10 _ _ _ x3).trans HX10.out
  have cy10 : W3.cell? ⟨Z + 1, 10, none⟩ = some (.slice none 0 0) := (cell_of_row _ _ 10 _ _ _ y3).trans HY10.out
  have cx11 : W3.cell? ⟨Z, 11, none⟩ = some (.slice none 0 0) := (cell_of_row _ _ 11 _ _ _ x3).trans HX11.out
  have cy11 : W3.cell? ⟨Z + 1, 11, none⟩ = some (.slice none 0 0) := (cell_of_row _ _ 11 _ _ _ y3).trans HY11.out
  have cx12 : W3.cell? ⟨Z, 12, none⟩ = some (.int .i64 0) := (cell_of_row _ _ 12 _ _ _ x3).trans HX12.out
  have cy12 : W3.cell? ⟨Z + 1, 12, none⟩ = some (.int .i64 0) := (cell_of_row _ _ 12 _ _ _ y3).trans HY12.out
  have cx13 : W3.cell? ⟨Z, 13, none⟩ = some (.slice none 0 0) := (cell_of_row _ _ 13 _ _ _ x3).trans HX13.out
  have cy13 : W3.cell? ⟨Z + 1, 13, none⟩ = some (.slice none 0 0) := (cell_of_row _ _ 13 _ _ _ y3).trans HY13.out
  go_wp2_with (fail)
  (with_reducible refine (H4.out W3).mono ?_)
  rintro e W4 ⟨rfl, hb4⟩
  have x4 := (hb4.block Z (by omega)).trans x3
  have y4 := (hb4.block (Z + 1) z3).trans y3
  have z4 := Nat.lt_of_lt_of_le z3 hb4.size
  have hB4 := hB3.trans (hb4.mono (by omega))
  clear cx8 cy8 cx9 cy9 cx10 cy10 cx11 cy11 cx12 cy12 cx13 cy13 x3 y3 z3 hb4 hB3
  have cx14 : W4.cell? ⟨Z, 14, none⟩ = some (.slice none 0 0) := (cell_of_row _ _ 14 _ _ _ x4).trans HX14.out
  have cy14 : W4.cell? ⟨Z + 1, 14, none⟩ = some (.slice none 0 0) := (cell_of_row _ _ 14 _ _ _ y4).trans HY14.out
  go_wp2_with (fail)
  (with_reducible refine (H5.out W4).mono ?_)
  rintro e W5 ⟨rfl, hb5⟩
  have x5 := (hb5.block Z (by omega)).trans x4
  have y5 := (hb5.block (Z + 1) z4).trans y4
  have z5 := Nat.lt_of_lt_of_le z4 hb5.size
  have hB5 := hB4.trans (hb5.mono (by omega))
  clear cx14 cy14 x4 y4 z4 hb5 hB4
  have cx15 : W5.cell? ⟨Z, 15, none⟩ = some (.slice I n2 ic) := (cell_of_row _ _ 15 _ _ _ x5).trans HX15.out
  have cy15 : W5.cell? ⟨Z + 1, 15, none⟩ = some (.slice I' n2 ic') := (cell_of_row _ _ 15 _ _ _ y5).trans HY15.out
  go_wp2_with (fail)
  (with_reducible refine (H6.out W5 hB5).mono ?_)
  rintro e W6 ⟨rfl, hb6⟩
  have x6 := (hb6.block Z (by omega)).trans x5
  have y6 := (hb6.block (Z + 1) z5).trans y5
  have z6 := Nat.lt_of_lt_of_le z5 hb6.size
  have hB6 := hB5.trans (hb6.mono (by omega))
  clear cx15 cy15 x5 y5 z5 hb6 hB5
  have cx16 : W6.cell? ⟨Z, 16, none⟩ = some (.slice W n3 wc) := (cell_of_row _ _ 16 _ _ _ x6).trans HX16.out
  have cy16 : W6.cell? ⟨Z + 1, 16, none⟩ = some (.slice W' n3 wc') := (cell_of_row _ _ 16 _ _ _ y6).trans HY16.out
  go_wp2_with (fail)
  (with_reducible refine (H7.out W6 hB6).mono ?_)
  rintro e W7 ⟨rfl, hb7⟩
  have x7 := (hb7.block Z (by omega)).trans x6
  have y7 := (hb7.block (Z + 1) z6).trans y6
  have z7 := Nat.lt_of_lt_of_le z6 hb7.size
  have hB7 := hB6.trans (hb7.mono (by omega))
  clear cx16 cy16 x6 y6 z6 hb7 hB6
  have cx17 : W7.cell? ⟨Z, 17, none⟩ = some (.slice R n4 rc) := (cell_of_row _ _ 17 _ _ _ x7).trans HX17.out
  have cy17 : W7.cell? ⟨Z + 1, 17, none⟩ = some (.slice R' n4 rc') := (cell_of_row _ _ 17 _ _ _ y7).trans HY17.out
  go_wp2_with (fail)
  (with_reducible refine (H8.out W7 hB7).mono ?_)
  rintro e W8 ⟨rfl, hb8⟩
  have x8 := (hb8.block Z (by omega)).trans x7
  have y8 := (hb8.block (Z + 1) z7).trans y7
  have z8 := Nat.lt_of_lt_of_le z7 hb8.size
  have hB8 := hB7.trans (hb8.mono (by omega))
  clear cx17 cy17 x7 y7 z7 hb8 hB7
  have cx18 : W8.cell? ⟨Z, 18, none⟩ = some (.slice none 0 0) := (cell_of_row _ _ 18 _ _ _ x8).trans HX18.out
  have cy18 : W8.cell? ⟨Z + 1, 18, none⟩ = some (.slice none 0 0) := (cell_of_row _ _ 18 _ _ _ y8).trans HY18.out
  go_wp2_with (fail)
  (with_reducible refine (H9.out W8).mono ?_)
  rintro e W9 ⟨rfl, hb9⟩
  have x9 := (hb9.block Z (by omega)).trans x8
  have y9 := (hb9.block (Z + 1) z8).trans y8
  have z9 := Nat.lt_of_lt_of_le z8 hb9.size
  have hB9 := hB8.trans (hb9.mono (by omega))
  clear cx18 cy18 x8 y8 z8 hb9 hB8
  go_wp2_with (fail)
  go_ret
  exact ⟨rfl, by first | exact hB9 | (rw [HZ.out]; exact hB9)⟩
end Go.Proofs.YtpppbkdbpbpinaaGreatDoor

/- Two certificates of Reset, or of Distance, are the same for grooveref59.Same. -/
set_option linter.unusedVariables false
namespace Go.Proofs.YtpppbkdbpbpinaaGreatDoor
open Go.RowKit
/-- an answer that is a certificate and an error -/
def CrtE (CX : Array Value) (r : Int) (e : Ending) : Prop := e = .returned (.tuple #[.agg CX, .int .i64 r]) ∧ CX.size = 19 ∧ CX.all (·.oneCell') = true
theorem crt_size (x : Crt) : x.cells.size = 19 := rfl
theorem crt_one (x : Crt) : x.cells.all (·.oneCell') = true := by
  simp [Crt.cells, Sl.v, Value.oneCell']
theorem RstP.form {L : Int} {rows : List (List Int)} {A : Option Addr} {cc : Nat} {w' : World} {e : Ending} (h : RstP L rows A cc w' e) : ∃ CX r, CrtE CX r e := by
  rcases h with ⟨_, h⟩ | ⟨_, I, D, dc, h, _⟩
  · exact ⟨_, _, h, crt_size _, crt_one _⟩
  · exact ⟨_, _, h, crt_size _, crt_one _⟩
theorem DisP.form {xs : List ByteArray} {A : Option Addr} {c : Nat} {w' : World} {e : Ending} (h : DisP xs A c w' e) : ∃ CX r, CrtE CX r e := by
  rcases h with ⟨_, h⟩ | ⟨_, _, h⟩ | ⟨_, i, k, I, _, h, _⟩
  · exact ⟨_, _, h, crt_size _, crt_one _⟩
  · exact ⟨_, _, h, crt_size _, crt_one _⟩
  · exact ⟨_, _, h, crt_size _, crt_one _⟩
theorem crtE_inj {CX CY : Array Value} {r s : Int} {e : Ending} (h : CrtE CX r e) (h2 : e = .returned (.tuple #[.agg CY, .int .i64 s])) : CX = CY ∧ r = s := by
  have := h.1.symm.trans h2
  simp only [Ending.returned.injEq, Value.tuple.injEq, Array.mk.injEq, List.cons.injEq, Value.agg.injEq, Value.int.injEq, and_true, true_and] at this
  exact this
theorem nil_nil (w : World) : Calls Tryz.prog 12 #[.agg (Crt.nil 0).cells, .agg (Crt.nil 0).cells] w fun e w' => e = .returned (.bool true) ∧ Below w.heap.size w w' :=
  r59Same_any 0 0 none none none none none none none none 0 0 0 0 0 0 0 0 [] [] [] [] w (fun h => absurd h (by simp)) (fun h => absurd h (by simp)) (fun h => absurd h (by simp)) (fun h => absurd h (by simp)) (fun h => absurd h (by simp)) (fun h => absurd h (by simp)) (fun h => absurd h (by simp)) (fun h => absurd h (by simp))
    (by simp) (by simp) (by simp) (by simp) (by simp) (by simp)
theorem rst_same {L : Int} {rows : List (List Int)} {A : Option Addr} {cc : Nat} {w1 w2 : World} {e1 e2 : Ending} {CX CY : Array Value} {r s : Int} (h1 : RstP L rows A cc w1 e1) (h2 : RstP L rows A cc w2 e2) (c1 : CrtE CX r e1) (c2 : CrtE CY s e2)
    (hR : RowD w1 A rows) (b1 : rows.length ≤ 9223372036854775807) (b2 : layE L rows = 0 → ∀ x ∈ rows, x.length ≤ 9223372036854775807) : r = s ∧ ∀ W, Below w1.heap.size w1 W → Below w2.heap.size w2 W →
      Calls Tryz.prog 12 #[.agg CX, .agg CY] W fun e w' => e = .returned (.bool true) ∧ Below W.heap.size W w' := by
  rcases h1 with ⟨n1, h1⟩ | ⟨n1, I, D, dc, h1, hw, hr, l1, l2⟩ <;> rcases h2 with ⟨n2, h2⟩ | ⟨n2, I', D', dc', h2, hw', hr', _, _⟩
  · obtain ⟨rfl, rfl⟩ := crtE_inj c1 h1
    obtain ⟨rfl, rfl⟩ := crtE_inj c2 h2
    exact ⟨rfl, fun W _ _ => nil_nil W⟩
  · exact absurd n2 n1
  · exact absurd n1 n2
  · obtain ⟨rfl, rfl⟩ := crtE_inj c1 h1
    obtain ⟨rfl, rfl⟩ := crtE_inj c2 h2
    refine ⟨rfl, fun W k1 k2 => ?_⟩
    exact r59Same_any 5 L A none _ D A none _ D' cc 0 1 dc cc 0 1 dc' rows [] [(fst44 rows L).1] (layO L rows) W (hR.below k1) (hR.below k1) (fun h => absurd h (by simp)) (fun h => absurd h (by simp)) (hw.below k1) (hw'.below k2) (hr.below k1) (hr'.below k2)
      b1 (b2 n1) (by simp) (by simp) l1 l2
theorem dis_same {xs : List ByteArray} {A : Option Addr} {c : Nat} {w1 w2 : World} {e1 e2 : Ending} {CX CY : Array Value} {r s : Int} (h1 : DisP xs A c w1 e1) (h2 : DisP xs A c w2 e2) (c1 : CrtE CX r e1) (c2 : CrtE CY s e2)
    (hX : RowT w1 A xs) (b1 : xs.length ≤ 9223372036854775807) : r = s ∧ ∀ W, Below w1.heap.size w1 W → Below w2.heap.size w2 W →
      Calls Tryz.prog 12 #[.agg CX, .agg CY] W fun e w' => e = .returned (.bool true) ∧ Below W.heap.size W w' := by
  rcases h1 with ⟨n1, h1⟩ | ⟨n1, ⟨m1, o1⟩, h1⟩ | ⟨n1, i, k, I, f1, h1, hi⟩ <;> rcases h2 with ⟨n2, h2⟩ | ⟨n2, ⟨m2, o2⟩, h2⟩ | ⟨n2, i', k', I', f2, h2, hi'⟩
  · obtain ⟨rfl, rfl⟩ := crtE_inj c1 h1
    obtain ⟨rfl, rfl⟩ := crtE_inj c2 h2
    exact ⟨rfl, fun W _ _ => nil_nil W⟩
  · exact absurd n2 n1
  · exact absurd n2 n1
  · exact absurd n1 n2
  · obtain ⟨rfl, rfl⟩ := crtE_inj c1 h1
    obtain ⟨rfl, rfl⟩ := crtE_inj c2 h2
    exact ⟨rfl, fun W _ _ => nil_nil W⟩
  · exact (f2.not o1).elim
  · exact absurd n1 n2
  · exact (f1.not o2).elim
  · obtain ⟨rfl, rfl⟩ := f1.same f2
    obtain ⟨rfl, rfl⟩ := crtE_inj c1 h1
    obtain ⟨rfl, rfl⟩ := crtE_inj c2 h2
    refine ⟨rfl, fun W g1 g2 => ?_⟩
    exact r59Same_any 9 0 none _ A none none _ A none 0 3 c 0 0 3 c 0 [] [(leV xs : Nat), (i : Nat), (k : Nat)] xs [] W (fun h => absurd h (by simp)) (fun h => absurd h (by simp)) (hi.below g1) (hi'.below g2) (hX.below g1) (hX.below g1) (fun h => absurd h (by simp)) (fun h => absurd h (by simp))
      (by simp) (by simp) (by simp) b1 (by simp) (by simp)
end Go.Proofs.YtpppbkdbpbpinaaGreatDoor

/- A range over a function whose iterator hands over rows that it has made: the body is told what the iterator has laid ahead of the round ('Pre'). No program in sight. -/
set_option linter.unusedVariables false
namespace Go.Proofs.YtpppbkdbpbpinaaGreatDoor
open Go.RowKit Go.Shelf
/-- what the iterator may turn between two rounds: its walks, and its own cells, but for the rows that it has handed over -/
def AbidesB {α : Type} (B : Nat) (blk : α → Nat) (J : List α → World → Prop) : Prop :=
  ∀ pre W W' row, J pre W → W.grownBy W' row → (∀ r, row = some r → B ≤ r ∧ ∃ o : Obj, W.heap[r]? = some o ∧ (o.isWalk = true ∨ (o.isCells = true ∧ ∀ x ∈ pre, blk x ≠ r))) → J pre W'
/-- what the loop's invariant must bear -/
def OwnB {α : Type} (B : Nat) (blk : α → Nat) (I : List α → World → Prop) : Prop :=
  ∀ pre W W' row, I pre W → W.grownBy W' row → (∀ r, row = some r → B ≤ r ∧ ∃ o : Obj, W.heap[r]? = some o ∧ (o.isCells = false ∨ ∀ x ∈ pre, blk x ≠ r)) → I pre W'
theorem OwnB.alloc {α : Type} {B : Nat} {blk : α → Nat} {I : List α → World → Prop} (h : OwnB B blk I) {pre : List α} {W : World} (o : Obj) (hs : I pre W) : I pre (W.alloc o) := h pre W _ none hs (World.grownBy_alloc W o none) (fun r e => by cases e)
theorem OwnB.putObj {α : Type} {B : Nat} {blk : α → Nat} {I : List α → World → Prop} (h : OwnB B blk I) {pre : List α} {W : World} {l : Nat} {o : Obj} (o' : Obj) (hs : I pre W) (hB : B ≤ l) (hl : W.heap[l]? = some o) (ho : o.isCells = false) : I pre (W.putObj l o') :=
  h pre W _ (some l) hs (grownBy_putObj' W l o') (fun r e => by cases e; exact ⟨hB, o, hl, .inl ho⟩)
/-- what an iterator owes: 'Pre x W' holds in the world in which it hands over x -/
def SeqPre {α : Type} (F : Fence) (n : Nat) (P : Program) (g : Nat) (lb : Array Value) (encs : α → Array Value) (Kp : World → World → Prop) (Pre : α → World → Prop) (blk : α → Nat) (S Sp : List α → Prop) (w : World) : Prop :=
  ∀ (l : Nat) (J Jx : List α → World → Prop) (W : World), Below w.heap.size w W → AbidesB W.heap.size blk J → AbidesB W.heap.size blk Jx →
    (∀ pre x W1, J pre W1 → Pre x W1 → YieldAt F (n - 1) P l (encs x) W1 fun e W' => (e = .returned (.bool true) ∧ J (pre ++ [x]) W' ∧ Kp W1 W') ∨ (e = .returned (.bool false) ∧ Jx (pre ++ [x]) W')) →
    J [] W → CallsIn F n P g (#[.func (.yield l) #[] #[]] ++ lb) W fun e W' => (∃ v, e = .returned v) ∧ ((∃ xs, S xs ∧ J xs W') ∨ (∃ pre, Sp pre ∧ Jx pre W'))
section
variable {F : Fence} {n : Nat} {P : Program}
/-- the two blocks of the loop's book-keeping -/
structure Book (w : World) (o d : Obj) (W : World) : Prop where
  loop : W.heap[w.heap.size + 1]? = some o
  calls : W.heap[w.heap.size]? = some d
theorem Book.keeps {w W W' : World} {o d : Obj} (h : Book w o d W) (hk : KeepsFrom w.heap.size W W') (h1 : o.isCells = false) (h2 : d.isCells = false) : Book w o d W' :=
  ⟨hk.same _ _ (by omega) h.loop h1, hk.same _ _ (Nat.le_refl _) h.calls h2⟩
theorem Book.turn {w W : World} {o d : Obj} (h : Book w o d W) (o' : Obj) : Book w o' d (W.putObj (w.heap.size + 1) o') :=
  ⟨World.putObj_heap_same (Array.getElem?_eq_some_iff.1 h.loop).1, (World.putObj_heap_other (by omega)).trans h.calls⟩
theorem wpIn_rangeFunc_pre {α : Type} {g : Operand} {ps : Array Tmp} {assign body : Code} {Q : Exit → Act → World → Prop} {a : Act} {w : World}
    (hro : F.round = none) (h1 : 1 ≤ n) {gf : Nat} {lb : Array Value} (hg : a.eval g = .func (.func gf) #[] lb) (hFg : F.fn gf) (eg : ∀ args w, (callFunc gf args).run P w = .ok (.enter gf args) w)
    {encs : α → Array Value} (hps : ∀ x, (encs x).size = ps.size) {Kp : World → World → Prop} {Pre : α → World → Prop} {blk : α → Nat} {S Sp : List α → Prop} (hseq : SeqPre F (n - 1) P gf lb encs Kp Pre blk S Sp w)
    (hKt : ∀ {A B C : World}, Kp A B → Kp B C → Kp A C) (hKb : ∀ (W : World) (l : Nat) (o o' : Obj), w.heap.size ≤ l → W.heap[l]? = some o → o.isCells = false → o.isWalk = false → Kp W (W.putObj l o'))
    (I : List α → World → Prop) (Ix : Code → List α → World → Prop) (hI : OwnB w.heap.size blk I) (hIx : ∀ c, OwnB w.heap.size blk (Ix c)) (h0 : I [] w) (Ax : List α → α → Act → World → Prop) (hAx : ∀ pre x a', OwnFrom w.heap.size (fun (_ : Unit) W => Ax pre x a' W))
    (hassign : ∀ (l : Nat) (pre : List α) (x : α) (W : World) (K : Act → World → Prop), I pre W → Pre x W → (∀ a' W', KeepsFrom w.heap.size W W' → Kp W W' → Ax pre x a' W' → K a' W') →
      assign.wpIn (F.inRound l) (n - 1 - 1) P (Exit.then K (fun _ _ _ => False)) { tmps := (ps.zip (encs x)).foldl (fun t (p, v) => t.setIfInBounds p v) a.tmps, defers := [] } W)
    (hbody : ∀ (l : Nat) (pre : List α) (x : α) (a' : Act) (W : World), Ax pre x a' W → body.wpIn (F.inRound l) (n - 1 - 1) P (ownPostG w.heap.size Kp I Ix (pre ++ [x]) W) a' W)
    (hdone : ∀ (D : Nat) (xs : List α) (W : World), w.heap.size ≤ D → S xs → I xs W → W.heap[D]? = some (.deferred (some [])) → Q .normal { a with defers := { target := .collected D, args := #[] } :: a.defers } W)
    (hstop : ∀ (D : Nat) (c : Code) (pre : List α) (W : World), w.heap.size ≤ D → Sp pre → Ix c pre W → W.heap[D]? = some (.deferred (some [])) → c.wpIn F n P Q { a with defers := { target := .collected D, args := #[] } :: a.defers } W) :
    (Code.rangeFunc g ps assign body).wpIn F n P Q a w := by
  refine wpIn_rangeFunc fun fn hfn => ?_
  rw [hro]
  let rec_ : LoopState → Option Code → Obj := fun st pe => .loop { state := st, pending := pe, fn, tmps := a.tmps, params := ps, assign, body, defers := w.heap.size }
  have hR : rec_ = fun st pe => .loop { state := st, pending := pe, fn, tmps := a.tmps, params := ps, assign, body, defers := w.heap.size } := rfl
  obtain ⟨W1, hW1⟩ : ∃ W1, (w.alloc (.deferred (some []))).alloc (rec_ .ready none) = W1 := ⟨_, rfl⟩
  have hB1 : Book w (rec_ .ready none) (.deferred (some [])) W1 := by
    rw [← hW1]
    refine ⟨?_, (Below.heap_alloc _ _ _ (by simp)).trans (World.alloc_heap_new w _)⟩
    have := World.alloc_heap_new (w.alloc (.deferred (some []))) (rec_ .ready none)
    rwa [World.size_alloc] at this
  have hz1 : W1.heap.size = w.heap.size + 2 := by rw [← hW1]; simp
  have hb1 : Below w.heap.size w W1 := by rw [← hW1]; exact ((Below.refl _ w).alloc (Nat.le_refl _) _).alloc (by simp) _
  have hI1 : I [] W1 := by rw [← hW1]; exact hI.alloc _ (hI.alloc _ h0)
  -- what the iterator turns of its own lies behind the loop's beginning
  have low : ∀ {X : World} {row : Option Nat} {pre : List α}, (∀ r, row = some r → W1.heap.size ≤ r ∧ ∃ o : Obj, X.heap[r]? = some o ∧ (o.isWalk = true ∨ (o.isCells = true ∧ ∀ x ∈ pre, blk x ≠ r))) → ∀ r, row = some r → w.heap.size ≤ r ∧ ∃ o : Obj, X.heap[r]? = some o ∧ (o.isCells = false ∨ ∀ x ∈ pre, blk x ≠ r) := fun h r e => by
    obtain ⟨a, o, b, c⟩ := h r e
    exact ⟨by omega, o, b, c.elim (fun c => .inl (Obj.not_cells_of_walk c)) (fun c => .inr c.2)⟩
  have bk : ∀ {X Y : World} {row : Option Nat} {o d : Obj}, Book w o d X → X.grownBy Y row → (∀ r, row = some r → W1.heap.size ≤ r) → Book w o d Y := fun hb hgr hr =>
    ⟨(hgr.block _ (Array.getElem?_eq_some_iff.1 hb.loop).1 (fun e => by have := hr _ e.symm; omega)).trans hb.loop, (hgr.block _ (Array.getElem?_eq_some_iff.1 hb.calls).1 (fun e => by have := hr _ e.symm; omega)).trans hb.calls⟩
  refine ⟨w.heap.size + 1, [{ target := .collected w.heap.size, args := #[] }], W1, { target := .fn (.func gf) lb, args := #[.func (.yield (w.heap.size + 1)) #[] #[]] }, W1, gf, #[.func (.yield (w.heap.size + 1)) #[] #[]] ++ lb, W1, ?_, ?_, ?_, ?_, fun _ => h1, ?_⟩
  · rw [← hW1]; exact run_enterLoop_outer _ _ _ _ _
  · simp only [resolve, hg]; simp [go_sem]
  · intro f' hf'; simp [Target.leads] at hf'; subst hf'; exact hFg
  · simp [invoke, go_sem, eg]
  refine (hseq (w.heap.size + 1) (fun pre W => I pre W ∧ Book w (rec_ .ready none) (.deferred (some [])) W) (fun pre W => ∃ c, Ix c pre W ∧ Book w (rec_ .done (some c)) (.deferred (some [])) W) W1 hb1
    (fun s X Y row hs hgr hr => ⟨hI s X Y row hs.1 hgr (low hr), bk hs.2 hgr (fun r e => (hr r e).1)⟩)
    (fun s X Y row hs hgr hr => by obtain ⟨c, hc, hb⟩ := hs; exact ⟨c, hIx c s X Y row hc hgr (low hr), bk hb hgr (fun r e => (hr r e).1)⟩) ?_ ⟨hI1, hB1⟩).mono ?_
  · rintro pre x W ⟨hi, hbk⟩ hpre
    have hy := run_yield (P := P) (args := encs x) hbk.loop (hps x)
    refine ⟨fn, _, assign, body, hy, roundIn_of_wpIn hfn (hassign _ pre x W _ hi hpre fun a' Wa hkf hkp hax => ?_)⟩
    have hba := hbk.keeps hkf rfl rfl
    refine ⟨_, run_beginRound hba.loop rfl, ?_⟩
    have hbb := hba.turn (rec_ .busy none)
    refine wpIn_mono (hbody _ pre x a' _ ((hAx pre x a').putObj (s := ()) _ hax (by omega) hba.loop rfl)) ?_
    have kb : ∀ {X : World} {o : Obj} (o' : Obj), Book w o (.deferred (some [])) X → o.isCells = false → o.isWalk = false → Kp X (X.putObj (w.heap.size + 1) o') := fun o' hb hc hw => hKb _ _ _ _ (by omega) hb.loop hc hw
    -- the round's end
    have fin : ∀ (jump : Option Code) (W3 : World), Book w (rec_ .busy none) (.deferred (some [])) W3 → (Instr.endRound (w.heap.size + 1) jump).run P W3 = .ok (.bool jump.isNone) (W3.putObj (w.heap.size + 1) (rec_ (if jump.isNone then .ready else .done) jump)) :=
      fun jump W3 h3 => run_endRound (P := P) jump h3.loop
    have left : ∀ (c : Code) (W3 : World), KeepsFrom w.heap.size (Wa.putObj (w.heap.size + 1) (rec_ .busy none)) W3 → Ix c (pre ++ [x]) W3 →
        ∃ c', Ix c' (pre ++ [x]) (W3.putObj (w.heap.size + 1) (rec_ .done (some c))) ∧ Book w (rec_ .done (some c')) (.deferred (some [])) (W3.putObj (w.heap.size + 1) (rec_ .done (some c))) := fun c W3 hk3 hi3 =>
      have h3 := hbb.keeps hk3 rfl rfl
      ⟨c, (hIx c).putObj _ hi3 (by omega) h3.loop rfl, h3.turn _⟩
    rintro e a3 W3 hp
    cases e with
    | normal =>
      obtain ⟨hk3, hkp3, hi3⟩ := hp
      have h3 := hbb.keeps hk3 rfl rfl
      exact ⟨_, _, fin none W3 h3, .inl ⟨rfl, ⟨hI.putObj _ hi3 (by omega) h3.loop rfl, h3.turn _⟩, hKt hkp (hKt (hKt (kb _ hba rfl rfl) hkp3) (kb _ h3 rfl rfl))⟩⟩
    | ret => exact ⟨_, _, fin (some .ret) W3 (hbb.keeps hp.1 rfl rfl), .inr ⟨rfl, left .ret W3 hp.1 hp.2⟩⟩
    | exit id => exact ⟨_, _, fin (some (.exit id)) W3 (hbb.keeps hp.1 rfl rfl), .inr ⟨rfl, left (.exit id) W3 hp.1 hp.2⟩⟩
    | goto t => exact ⟨_, _, fin (some (.goto t)) W3 (hbb.keeps hp.1 rfl rfl), .inr ⟨rfl, left (.goto t) W3 hp.1 hp.2⟩⟩
    | panic ch => exact hp.elim
    | outgrown => exact hp.elim
  · rintro e W2 ⟨⟨v, rfl⟩, (⟨xs, hS, hi, hb⟩ | ⟨pre, hSp, c, hi, hb⟩)⟩
    · exact ⟨none, _, run_endLoop (P := P) hb.loop (by simp), hdone _ xs _ (Nat.le_refl _) hS (hI.putObj _ hi (by omega) hb.loop rfl) ((World.putObj_heap_other (by omega)).trans hb.calls)⟩
    · exact ⟨some c, _, run_endLoop (P := P) hb.loop (by simp), hstop _ c pre _ (Nat.le_refl _) hSp ((hIx c).putObj _ hi (by omega) hb.loop rfl) ((World.putObj_heap_other (by omega)).trans hb.calls)⟩
end
end Go.Proofs.YtpppbkdbpbpinaaGreatDoor

/- slices.IndexFunc, ContainsFunc at []string, with a function value of three captured variables (printed by wip/mk_cfs.py). -/
set_option linter.unusedVariables false
namespace Go.Proofs.YtpppbkdbpbpinaaGreatDoor
open Go.RowKit
set_option maxRecDepth 100000 in
set_option maxHeartbeats 2000000 in
theorem ifS3_any (FN : Nat) (c1 c2 c3 : Value) (el : Nat → Value) (b : Nat → Bool) (n c g o : Nat) (w : World) (hn : n ≤ 4294967296) (hgl : g < w.heap.size) (hc : ∀ i, i < n → w.cell? ⟨g, o + i, none⟩ = some (el i))
    (hcf : ∀ (args : Array Value) (W : World), (callFunc FN args).run Tryz.prog W = .ok (.enter FN args) W)
    (H : Hid (∀ i W, i < n → Below w.heap.size w W → Calls Tryz.prog FN #[(el i), c1, c2, c3] W fun e W' => e = .returned (.bool (b i)) ∧ Below W.heap.size W W')) :
    Calls Tryz.prog 15 #[.slice (some ⟨g, o, none⟩) n c, .func (.func FN) #[] #[c1, c2, c3]] w fun e w' => ∃ z : Int, e = .returned (.int .i64 z) ∧ decide (0 ≤ z) = (List.range n).any b ∧ Below w.heap.size w w' := by
  have HC := hide hc
  clear hc
  go_enter Tryz.func15, Tryz.ntmps15
  go_wp2
  go_loopw [8] (fun iv wr => ∃ i : Nat, iv = .int .i64 i ∧ i ≤ n ∧ Hid (∀ j, j < i → b j = false) ∧ Below w.heap.size w wr) (fun iv _ => n - (intOf iv).toNat)
  case atStart => exact ⟨0, rfl, Nat.zero_le _, hide fun j h => absurd h (by omega), Below.refl _ _⟩
  case round =>
    obtain ⟨i, rfl, hi, hJ, hB⟩ := hrel
    by_cases hlt : i < n
    · have hi0 : (0 : Int) ≤ (i : Int) := by omega
      have hi1 : (i : Int) < (n : Int) := by omega
      have y0 := (hB.cell (p := ⟨g, o + i, none⟩) hgl).trans (HC.out i hlt)
      have HF := hide (H.out i wr hlt hB)
      have HB := hide hB
      clear hB
      cases hb : b i with
      | true =>
        rw [hb] at HF
        have HA := hide (show (List.range n).any b = true by
          rw [List.any_eq_true]
          exact ⟨i, List.mem_range.2 hlt, hb⟩)
        clear hb
        go_wp2_with fail
        (with_reducible refine HF.out.mono ?_)
        rintro e w1 ⟨rfl, hB1⟩
        have HB1 := hide (HB.out.trans (hB1.mono HB.out.size))
        clear hB1
        go_wp2
        go_ret
        exact ⟨_, rfl, by rw [HA.out]; exact decide_eq_true hi0, HB1.out⟩
      | false =>
        rw [hb] at HF
        have HJ2 := hide (show ∀ j, j < i + 1 → b j = false from fun j hj => by
          rcases Nat.lt_or_ge j i with h | h
          · exact hJ.out j h
          · obtain rfl : j = i := by omega
            exact hb)
        clear hb hJ
        go_wp2_with fail
        (with_reducible refine HF.out.mono ?_)
        rintro e w1 ⟨rfl, hB1⟩
        have HB1 := hide (HB.out.trans (hB1.mono HB.out.size))
        clear hB1
        go_wp2
        go_roundw
        case rel => exact ⟨i + 1, by go_num, hlt, HJ2, HB1.out⟩
        case measure => simp [intOf]; omega
    · obtain rfl : i = n := by omega
      have HB := hide hB
      have HA := hide (show (List.range i).any b = false by
        rw [List.any_eq_false]
        intro j hj
        rw [hJ.out j (List.mem_range.1 hj)]
        simp)
      clear hB hJ
      go_wp2
      go_ret
      exact ⟨-1, rfl, by rw [HA.out]; rfl, HB.out⟩
set_option maxRecDepth 100000 in
set_option maxHeartbeats 1000000 in
theorem cfS3_any (FN : Nat) (c1 c2 c3 : Value) (el : Nat → Value) (b : Nat → Bool) (n c g o : Nat) (w : World) (hn : n ≤ 4294967296) (hgl : g < w.heap.size) (hc : ∀ i, i < n → w.cell? ⟨g, o + i, none⟩ = some (el i))
    (hcf : ∀ (args : Array Value) (W : World), (callFunc FN args).run Tryz.prog W = .ok (.enter FN args) W)
    (H : Hid (∀ i W, i < n → Below w.heap.size w W → Calls Tryz.prog FN #[(el i), c1, c2, c3] W fun e W' => e = .returned (.bool (b i)) ∧ Below W.heap.size W W')) :
    Calls Tryz.prog 5 #[.slice (some ⟨g, o, none⟩) n c, .func (.func FN) #[] #[c1, c2, c3]] w fun e w' => e = .returned (.bool ((List.range n).any b)) ∧ Below w.heap.size w w' := by
  have HI := hide (ifS3_any FN c1 c2 c3 el b n c g o w hn hgl hc hcf H)
  clear hc H hcf
  go_enter Tryz.func5, Tryz.ntmps5
  go_wp2_with fail
  (with_reducible refine HI.out.mono ?_)
  rintro e w1 ⟨z, rfl, hz, hB⟩
  have HZ := hide hz
  have HB := hide hB
  clear hz hB
  go_wp2
  go_ret
  exact ⟨by rw [← HZ.out]; rfl, HB.out⟩
end Go.Proofs.YtpppbkdbpbpinaaGreatDoor

/- decodable.firsts and its iterator: their contracts, for every loop body. -/
set_option linter.unusedVariables false
namespace Go.Proofs.YtpppbkdbpbpinaaGreatDoor
open Go.RowKit Go.Shelf
attribute [local go_sem] Oper.semAt_some
/-- what 'firsts' yields at a pair of words -/
def pf (x y : ByteArray) : List (ByteArray × List UInt8) := if Lib.hasPrefix y.data.toList x.data.toList && !(Lib.trimPrefix y.data.toList x.data.toList).isEmpty then [(y, Lib.trimPrefix y.data.toList x.data.toList)] else []
def frs (xs : List ByteArray) : List (ByteArray × List UInt8) := xs.flatMap fun x => xs.flatMap fun y => pf x y
/-- what has been yielded at a place of the two loops -/
def frsP (xs : List ByteArray) (i j : Nat) : List (ByteArray × List UInt8) := ((xs.take i).flatMap fun x => xs.flatMap fun y => pf x y) ++ (xs.take j).flatMap fun y => pf (xs.getD i ⟨#[]⟩) y
theorem frsP_zero (xs : List ByteArray) : frsP xs 0 0 = [] := by simp [frsP]
theorem frsP_in {xs : List ByteArray} {i j : Nat} (hj : j < xs.length) : frsP xs i (j + 1) = frsP xs i j ++ pf (xs.getD i ⟨#[]⟩) xs[j] := by
  unfold frsP
  rw [List.take_succ_eq_append_getElem hj, List.flatMap_append, List.append_assoc]
  simp
theorem frsP_out {xs : List ByteArray} {i : Nat} (hi : i < xs.length) : frsP xs i xs.length = frsP xs (i + 1) 0 := by
  unfold frsP
  rw [List.take_succ_eq_append_getElem hi, List.flatMap_append, List.take_length]
  simp [hi]
theorem frsP_end (xs : List ByteArray) : frsP xs xs.length 0 = frs xs := by
  unfold frsP frs; simp
theorem fm_pre {α β : Type} (f : α → List β) (l : List α) (k : Nat) : (l.take k).flatMap f <+: l.flatMap f := ⟨(l.drop k).flatMap f, by rw [← List.flatMap_append, List.take_append_drop]⟩
theorem frsP_pre {xs : List ByteArray} {i j : Nat} (hi : i < xs.length) (hj : j ≤ xs.length) : frsP xs i j <+: frs xs := by
  have h2 : frsP xs i j <+: frsP xs i xs.length := by
    unfold frsP
    rw [List.take_length]
    exact (List.prefix_append_right_inj _).2 (fm_pre _ _ _)
  refine h2.trans ?_
  rw [frsP_out hi]
  unfold frsP frs
  simp only [List.take_zero, List.flatMap_nil, List.append_nil]
  exact fm_pre _ _ _
def encF (x : ByteArray × List UInt8) : Array Value := #[.string x.1, .string ⟨x.2.toArray⟩]
set_option maxHeartbeats 1000000 in
theorem firsts_in (q : Int) (A : Option Addr) (n c : Nat) (w : World) :
    Calls Tryz.prog 165 #[.agg #[.int .i64 q, .slice A n c]] w fun e w' => e = .returned (.func (.func 236) #[] #[.pointer (some ⟨w.heap.size, 0, none⟩)]) ∧ w' = w.alloc (.cells #[.int .i64 q, .slice A n c] 34) := by
  go_enter Tryz.func165, Tryz.ntmps165
  go_wp2
  go_ret
  exact ⟨rfl, rfl⟩
set_option maxRecDepth 100000 in
set_option maxHeartbeats 2000000 in
theorem firstsf_in (n : Nat) (hn : 1 ≤ n) (l c0 c B : Nat) (xs : List ByteArray) (A : Option Addr) (hc : xs.length ≤ 4294967296) (Kp : World → World → Prop) (hKr : ∀ W, Kp W W) (hKt : ∀ {X Y Z : World}, Kp X Y → Kp Y Z → Kp X Z) (J Jx : List (ByteArray × List UInt8) → World → Prop) (hJ : AbidesFrom B J)
    (hY : ∀ pre x W, J pre W → pre ++ [x] <+: frs xs → YieldAt Fence.wide (n - 1) Tryz.prog l (encF x) W fun e W' =>
      (e = .returned (.bool true) ∧ J (pre ++ [x]) W' ∧ Kp W W') ∨ (e = .returned (.bool false) ∧ Jx (pre ++ [x]) W'))
    (W : World) (hR : ∀ W', Kp W W' → RowT W' A xs ∧ W'.cell? ⟨c0, 1, none⟩ = some (.slice A xs.length c)) (h0 : J [] W) :
    CallsIn Fence.wide n Tryz.prog 236 #[.func (.yield l) #[] #[], .pointer (some ⟨c0, 0, none⟩)] W fun e W' => (∃ v, e = .returned v) ∧
      ((∃ ys, ys = frs xs ∧ J ys W') ∨ (∃ pre, pre <+: frs xs ∧ Jx pre W')) := by
  have HR := hide hR
  have HY := hide hY
  have HC := hide (fun n s p W => callsIn_wide (n := n).2 (strings_CutPrefix s p W))
  obtain ⟨_, e0⟩ := hR W (hKr W)
  clear hR hY
  refine callsIn_of_wp Tryz.func236 rfl trivial ?_ rfl
  simp only [Tryz.ntmps236, List.size_toArray, List.length_cons, List.length_nil, Nat.reduceAdd, Nat.reduceSub, Array.replicate_succ, Array.replicate_zero, List.push_toArray, List.append_toArray, List.nil_append, List.cons_append]
  gi_wp2
  gi_loopw [12] (fun iv wr => ∃ i : Nat, i ≤ xs.length ∧ iv = .int .i64 i ∧ J (frsP xs i 0) wr ∧ Kp W wr) (fun iv _ => xs.length - (intOf iv).toNat)
  case atStart => exact ⟨0, Nat.zero_le _, rfl, by rw [frsP_zero]; exact h0, hKr _⟩
  case round =>
    obtain ⟨i, hi, rfl, hJs, hnx⟩ := hrel
    clear h0 e0
    by_cases hlt : i < xs.length
    · have hi0 : (0 : Int) ≤ (i : Int) := by omega
      have hi1 : (i : Int) < (xs.length : Int) := by omega
      obtain ⟨hRo, e1⟩ := HR.out wr hnx
      obtain ⟨b, o, hAb, hbl, hcell⟩ := hRo (by omega)
      have e2 := hcell i hlt
      have HX := hide (show xs.getD i ⟨#[]⟩ = xs[i] by simp [hlt])
      obtain ⟨x, hx⟩ : ∃ x, xs[i] = x := ⟨_, rfl⟩
      rw [hx] at e2 HX
      have HAb := hide hAb
      have HJs := hide hJs
      have HNX := hide hnx
      rw [hAb]
      rw [hAb] at e1
      clear hx hRo hcell hJs hnx hAb
      obtain ⟨wr1, rfl⟩ : ∃ wr1, wr1 = wr := ⟨_, rfl⟩
      gi_wp2
      gi_loopw [19] (fun jv wr => ∃ j : Nat, j ≤ xs.length ∧ jv = .int .i64 j ∧ J (frsP xs i j) wr ∧ Kp W wr) (fun jv _ => xs.length - (intOf jv).toNat)
      case atStart => exact ⟨0, Nat.zero_le _, rfl, HJs.out, HNX.out⟩
      case round =>
        obtain ⟨j, hj, rfl, hJs, hnx⟩ := hrel
        clear e1 e2 HJs HNX
        obtain ⟨wr2, rfl⟩ : ∃ wr2, wr2 = wr := ⟨_, rfl⟩
        by_cases hjl : j < xs.length
        · have hj0 : (0 : Int) ≤ (j : Int) := by omega
          have hj1 : (j : Int) < (xs.length : Int) := by omega
          obtain ⟨hRo, e1⟩ := HR.out wr2 hnx
          obtain ⟨b', o', hAb', hbl', hcell⟩ := hRo (by omega)
          have hbo : b' = b ∧ o' = o := by have h := HAb.out.symm.trans hAb'; simp at h; omega
          obtain ⟨rfl, rfl⟩ := hbo
          have e2 := hcell j hjl
          have HIn := hide (frsP_in (xs := xs) (i := i) hjl)
          obtain ⟨y, hy⟩ : ∃ y, xs[j] = y := ⟨_, rfl⟩
          rw [hy] at e2 HIn
          rw [HX.out] at HIn
          have HJs := hide hJs
          have HNX := hide hnx
          clear hy hRo hcell hJs hnx hAb' e1
          have HPf := hide (show pf x y = if Lib.hasPrefix y.data.toList x.data.toList && !(Lib.trimPrefix y.data.toList x.data.toList).isEmpty then [(y, Lib.trimPrefix y.data.toList x.data.toList)] else [] from rfl)
          have HCx := hide (HC.out (n - 1) y x wr2)
          have HLe := hide ((frsP_pre hlt (Nat.succ_le_of_lt hjl)).length_le)
          have HPre := hide (frsP_pre hlt (Nat.succ_le_of_lt hjl))
          obtain ⟨hp, hhp⟩ : ∃ hp, Lib.hasPrefix y.data.toList x.data.toList = hp := ⟨_, rfl⟩
          obtain ⟨tr, htr⟩ : ∃ tr, Lib.trimPrefix y.data.toList x.data.toList = tr := ⟨_, rfl⟩
          rw [hhp, htr] at HPf HCx
          clear hhp htr
          gi_wp2_with fail
          refine ⟨trivial, ?_⟩
          (with_reducible refine HCx.out.mono ?_)
          rintro e W3 ⟨rfl, rfl⟩
          cases hp with
          | false =>
            have HIn2 := hide (show frsP xs i (j + 1) = frsP xs i j by rw [HIn.out, HPf.out]; simp)
            clear HPf HCx HLe HPre HIn
            gi_wp2
            (repeat (refine ⟨(fun _ h => nomatch h), ?_⟩; gi_wp2))
            go_roundw
            case rel => exact ⟨j + 1, hjl, by go_num, by rw [HIn2.out]; exact HJs.out, HNX.out⟩
            case measure => simp [intOf]; omega
          | true =>
            cases tr with
            | nil =>
              have HIn2 := hide (show frsP xs i (j + 1) = frsP xs i j by rw [HIn.out, HPf.out]; simp)
              clear HPf HCx HLe HPre HIn
              gi_wp2
              (repeat (refine ⟨(fun _ h => nomatch h), ?_⟩; gi_wp2))
              go_roundw
              case rel => exact ⟨j + 1, hjl, by go_num, by rw [HIn2.out]; exact HJs.out, HNX.out⟩
              case measure => simp [intOf]; omega
            | cons u tr =>
              have hIn2 : frsP xs i (j + 1) = frsP xs i j ++ [(y, u :: tr)] := by rw [HIn.out, HPf.out]; simp
              have hY2 := HY.out (frsP xs i j) (y, u :: tr) W3 HJs.out (by have h := HPre.out; rw [hIn2] at h; exact h)
              rw [← hIn2] at hY2
              simp only [encF] at hY2
              obtain ⟨fn, tmps, assign, body, hy, hR⟩ := hY2
              have hne : ((⟨(u :: tr).toArray⟩ : ByteArray).toList == (⟨#[]⟩ : ByteArray).toList) = false := by
                rw [ByteArray.toList_eq, ByteArray.toList_eq]; rfl
              clear HPf HCx HLe HIn hIn2 HJs
              gi_wp2
              refine hR.mono ?_
              rintro e W4 (⟨rfl, hJ3, hk3⟩ | ⟨rfl, hJx3⟩)
              · gi_wp2
                go_roundw
                case rel => exact ⟨j + 1, hjl, by go_num, hJ3, hKt HNX.out hk3⟩
                case measure => simp [intOf]; omega
              · gi_wp2
                refine bodyPost_ret (results_none rfl _ _ _) rfl ?_
                exact ⟨⟨_, rfl⟩, .inr ⟨_, HPre.out, hJx3⟩⟩
        · obtain rfl : j = xs.length := by omega
          have HJ2 := hide (show J (frsP xs (i + 1) 0) wr2 by rw [← frsP_out hlt]; exact hJs)
          have HNX := hide hnx
          clear hJs hnx
          gi_wp2
          go_roundw
          case rel => exact ⟨i + 1, hlt, by go_num, HJ2.out, HNX.out⟩
          case measure => simp [intOf]; omega
    · obtain rfl : i = xs.length := by omega
      gi_wp2
      go_end0
      exact ⟨⟨_, rfl⟩, .inl ⟨_, rfl, by rw [frsP_end] at hJs; exact hJs⟩⟩
/-- the yields as a type: the loop's body may know where they come from -/
abbrev FrsT (xs : List ByteArray) := { x : ByteArray × List UInt8 // x ∈ frs xs }
theorem firstsf_stops (n : Nat) (hn : 1 ≤ n) (c0 c : Nat) (xs : List ByteArray) (A : Option Addr) (hc : xs.length ≤ 4294967296) (Kp : World → World → Prop) (hKr : ∀ W, Kp W W) (hKt : ∀ {X Y Z : World}, Kp X Y → Kp Y Z → Kp X Z) (w : World)
    (hR : ∀ W W', Below w.heap.size w W → Kp W W' → RowT W' A xs ∧ W'.cell? ⟨c0, 1, none⟩ = some (.slice A xs.length c)) :
    SeqStopsK Fence.wide n Tryz.prog 236 #[.pointer (some ⟨c0, 0, none⟩)] (fun x : FrsT xs => encF x.1) Kp (fun ys => ys.map Subtype.val = frs xs) (fun pre => pre.map Subtype.val <+: frs xs) (frs xs).length w := by
  intro l J Jx W hW hJ _ hY h0
  refine (firstsf_in n hn l c0 c W.heap.size xs A hc Kp hKr hKt (fun pre W => ∃ p : List (FrsT xs), p.map Subtype.val = pre ∧ J p W) (fun pre W => ∃ p : List (FrsT xs), p.map Subtype.val = pre ∧ Jx p W)
    (fun s A B row ⟨p, e, h⟩ hg hr => ⟨p, e, hJ p A B row h hg hr⟩) ?_ W (fun W' hW' => hR W W' hW hW') ⟨[], rfl, h0⟩).mono ?_
  · rintro pre x W1 ⟨p, rfl, h⟩ hp
    have hx : x ∈ frs xs := hp.subset (by simp)
    have hl := hp.length_le
    simp at hl
    refine (hY p ⟨x, hx⟩ W1 h (by omega)).mono ?_
    rintro e W' (⟨h1, h2, h3⟩ | ⟨h1, h2⟩)
    · exact .inl ⟨h1, ⟨_, by simp, h2⟩, h3⟩
    · exact .inr ⟨h1, ⟨_, by simp, h2⟩⟩
  · rintro e W' ⟨h1, ⟨ys, rfl, p, h2, h3⟩ | ⟨pre, h2, p, rfl, h3⟩⟩
    · exact ⟨h1, .inl ⟨p, h2, h3⟩⟩
    · exact ⟨h1, .inr ⟨p, h2, h3⟩⟩
end Go.Proofs.YtpppbkdbpbpinaaGreatDoor

/- decodable.nexts and its iterator: their contracts, for every loop body. -/
set_option linter.unusedVariables false
namespace Go.Proofs.YtpppbkdbpbpinaaGreatDoor
open Go.RowKit Go.Shelf
attribute [local go_sem] Oper.semAt_some
/-- what 'nexts' yields at a word -/
def nxW (r x : ByteArray) : List (List UInt8 × Nat) := if Lib.hasPrefix r.data.toList x.data.toList then [(Lib.trimPrefix r.data.toList x.data.toList, 0)] else if Lib.hasPrefix x.data.toList r.data.toList then [(Lib.trimPrefix x.data.toList r.data.toList, (Lib.trimPrefix x.data.toList r.data.toList).length)] else []
def nxs (xs : List ByteArray) (r : ByteArray) : List (List UInt8 × Nat) := xs.flatMap fun x => nxW r x
def nxsP (xs : List ByteArray) (r : ByteArray) (i : Nat) : List (List UInt8 × Nat) := (xs.take i).flatMap fun x => nxW r x
theorem nxsP_succ {xs : List ByteArray} {r : ByteArray} {i : Nat} (hi : i < xs.length) : nxsP xs r (i + 1) = nxsP xs r i ++ nxW r xs[i] := by
  unfold nxsP
  rw [List.take_succ_eq_append_getElem hi, List.flatMap_append]
  simp
theorem nxsP_end (xs : List ByteArray) (r : ByteArray) : nxsP xs r xs.length = nxs xs r := by unfold nxsP nxs; rw [List.take_length]
theorem nxsP_pre (xs : List ByteArray) (r : ByteArray) (i : Nat) : nxsP xs r i <+: nxs xs r := fm_pre _ _ _
def encN (x : List UInt8 × Nat) : Array Value := #[.string ⟨x.1.toArray⟩, .int .i64 (x.2 : Int)]
set_option maxHeartbeats 1000000 in
theorem nexts_in (q : Int) (A : Option Addr) (n c : Nat) (r : ByteArray) (w : World) :
    Calls Tryz.prog 166 #[.agg #[.int .i64 q, .slice A n c], .string r] w fun e w' => e = .returned (.func (.func 238) #[] #[.pointer (some ⟨w.heap.size, 0, none⟩), .pointer (some ⟨w.heap.size + 1, 0, none⟩)]) ∧ w' = (w.alloc (.cells #[.int .i64 q, .slice A n c] 34)).alloc (.cells #[.string r] 9) := by
  go_enter Tryz.func166, Tryz.ntmps166
  go_wp2
  go_ret
  exact ⟨rfl, rfl⟩
set_option maxRecDepth 100000 in
set_option maxHeartbeats 4000000 in
theorem nextsf_in (n : Nat) (hn : 1 ≤ n) (l c0 c1 c B : Nat) (xs : List ByteArray) (r : ByteArray) (A : Option Addr) (hc : xs.length ≤ 4294967296) (Kp : World → World → Prop) (hKr : ∀ W, Kp W W) (hKt : ∀ {X Y Z : World}, Kp X Y → Kp Y Z → Kp X Z) (J Jx : List (List UInt8 × Nat) → World → Prop) (hJ : AbidesFrom B J)
    (hY : ∀ pre x W, J pre W → pre ++ [x] <+: nxs xs r → YieldAt Fence.wide (n - 1) Tryz.prog l (encN x) W fun e W' =>
      (e = .returned (.bool true) ∧ J (pre ++ [x]) W' ∧ Kp W W') ∨ (e = .returned (.bool false) ∧ Jx (pre ++ [x]) W'))
    (W : World) (hR : ∀ W', Kp W W' → RowT W' A xs ∧ W'.cell? ⟨c0, 1, none⟩ = some (.slice A xs.length c) ∧ W'.cell? ⟨c1, 0, none⟩ = some (.string r)) (h0 : J [] W) :
    CallsIn Fence.wide n Tryz.prog 238 #[.func (.yield l) #[] #[], .pointer (some ⟨c0, 0, none⟩), .pointer (some ⟨c1, 0, none⟩)] W fun e W' => (∃ v, e = .returned v) ∧
      ((∃ ys, ys = nxs xs r ∧ J ys W') ∨ (∃ pre, pre <+: nxs xs r ∧ Jx pre W')) := by
  have hz0 : ((0 : Nat) : Int) = 0 := rfl
  have HR := hide hR
  have HY := hide hY
  have HC := hide (fun n s p W => callsIn_wide (n := n).2 (strings_CutPrefix s p W))
  obtain ⟨_, e0, _⟩ := hR W (hKr W)
  clear hR hY
  refine callsIn_of_wp Tryz.func238 rfl trivial ?_ rfl
  simp only [Tryz.ntmps238, List.size_toArray, List.length_cons, List.length_nil, Nat.reduceAdd, Nat.reduceSub, Array.replicate_succ, Array.replicate_zero, List.push_toArray, List.append_toArray, List.nil_append, List.cons_append]
  gi_wp2
  gi_loopw [13] (fun iv wr => ∃ i : Nat, i ≤ xs.length ∧ iv = .int .i64 i ∧ J (nxsP xs r i) wr ∧ Kp W wr) (fun iv _ => xs.length - (intOf iv).toNat)
  case atStart => exact ⟨0, Nat.zero_le _, rfl, by rw [show nxsP xs r 0 = [] from rfl]; exact h0, hKr _⟩
  case round =>
    obtain ⟨i, hi, rfl, hJs, hnx⟩ := hrel
    clear h0 e0
    by_cases hlt : i < xs.length
    · have hi0 : (0 : Int) ≤ (i : Int) := by omega
      have hi1 : (i : Int) < (xs.length : Int) := by omega
      obtain ⟨hRo, e1, e3⟩ := HR.out wr hnx
      obtain ⟨b, o, hAb, hbl, hcell⟩ := hRo (by omega)
      have e2 := hcell i hlt
      have HIn := hide (nxsP_succ (r := r) hlt)
      have HLe := hide ((nxsP_pre xs r (i + 1)).length_le)
      have HPre := hide (nxsP_pre xs r (i + 1))
      obtain ⟨x, hx⟩ : ∃ x, xs[i] = x := ⟨_, rfl⟩
      rw [hx] at e2 HIn
      have HJs := hide hJs
      have HNX := hide hnx
      rw [hAb]
      clear hx hRo hcell hJs hnx hAb e1
      obtain ⟨wr1, rfl⟩ : ∃ wr1, wr1 = wr := ⟨_, rfl⟩
      have HNx := hide (show nxW r x = if Lib.hasPrefix r.data.toList x.data.toList then [(Lib.trimPrefix r.data.toList x.data.toList, 0)] else if Lib.hasPrefix x.data.toList r.data.toList then [(Lib.trimPrefix x.data.toList r.data.toList, (Lib.trimPrefix x.data.toList r.data.toList).length)] else [] from rfl)
      have HC1 := hide (HC.out (n - 1) r x wr1)
      have HC2 := hide (HC.out (n - 1) x r wr1)
      obtain ⟨hp, hhp⟩ : ∃ hp, Lib.hasPrefix r.data.toList x.data.toList = hp := ⟨_, rfl⟩
      obtain ⟨tr, htr⟩ : ∃ tr, Lib.trimPrefix r.data.toList x.data.toList = tr := ⟨_, rfl⟩
      obtain ⟨hp2, hhp2⟩ : ∃ hp2, Lib.hasPrefix x.data.toList r.data.toList = hp2 := ⟨_, rfl⟩
      obtain ⟨tr2, htr2⟩ : ∃ tr2, Lib.trimPrefix x.data.toList r.data.toList = tr2 := ⟨_, rfl⟩
      rw [hhp, htr, hhp2, htr2] at HNx
      rw [hhp, htr] at HC1
      rw [hhp2, htr2] at HC2
      clear hhp htr hhp2 htr2
      gi_wp2_with fail
      refine ⟨trivial, ?_⟩
      (with_reducible refine HC1.out.mono ?_)
      rintro e W3 ⟨rfl, rfl⟩
      cases hp with
      | true =>
        have hIn2 : nxsP xs r (i + 1) = nxsP xs r i ++ [(tr, 0)] := by rw [HIn.out, HNx.out]; simp
        have hY2 := HY.out (nxsP xs r i) (tr, 0) W3 HJs.out (by have h := HPre.out; rw [hIn2] at h; exact h)
        rw [← hIn2] at hY2
        simp only [encN, hz0] at hY2
        obtain ⟨fn, tmps, assign, body, hy, hR⟩ := hY2
        clear HNx HC1 HC2 HLe HIn hIn2 HJs
        gi_wp2
        refine hR.mono ?_
        rintro e W4 (⟨rfl, hJ3, hk3⟩ | ⟨rfl, hJx3⟩)
        · gi_wp2
          (repeat (refine ⟨(fun _ h => nomatch h), ?_⟩; gi_wp2))
          go_roundw
          case rel => exact ⟨i + 1, hlt, by go_num, hJ3, hKt HNX.out hk3⟩
          case measure => simp [intOf]; omega
        · gi_wp2
          refine bodyPost_ret (results_none rfl _ _ _) rfl ?_
          exact ⟨⟨_, rfl⟩, .inr ⟨_, HPre.out, hJx3⟩⟩
      | false =>
        gi_wp2_with fail
        refine ⟨trivial, ?_⟩
        (with_reducible refine HC2.out.mono ?_)
        rintro e W3 ⟨rfl, rfl⟩
        cases hp2 with
        | true =>
          have hIn2 : nxsP xs r (i + 1) = nxsP xs r i ++ [(tr2, tr2.length)] := by rw [HIn.out, HNx.out]; simp
          have hY2 := HY.out (nxsP xs r i) (tr2, tr2.length) W3 HJs.out (by have h := HPre.out; rw [hIn2] at h; exact h)
          rw [← hIn2] at hY2
          simp only [encN, hz0] at hY2
          obtain ⟨fn, tmps, assign, body, hy, hR⟩ := hY2
          clear HNx HC1 HC2 HLe HIn hIn2 HJs
          gi_wp2
          refine hR.mono ?_
          rintro e W4 (⟨rfl, hJ3, hk3⟩ | ⟨rfl, hJx3⟩)
          · gi_wp2
            (repeat (refine ⟨(fun _ h => nomatch h), ?_⟩; gi_wp2))
            go_roundw
            case rel => exact ⟨i + 1, hlt, by go_num, hJ3, hKt HNX.out hk3⟩
            case measure => simp [intOf]; omega
          · gi_wp2
            refine bodyPost_ret (results_none rfl _ _ _) rfl ?_
            exact ⟨⟨_, rfl⟩, .inr ⟨_, HPre.out, hJx3⟩⟩
        | false =>
          have HIn2 := hide (show nxsP xs r (i + 1) = nxsP xs r i by rw [HIn.out, HNx.out]; simp)
          clear HNx HC1 HC2 HLe HPre HIn
          gi_wp2
          (repeat (refine ⟨(fun _ h => nomatch h), ?_⟩; gi_wp2))
          go_roundw
          case rel => exact ⟨i + 1, hlt, by go_num, by rw [HIn2.out]; exact HJs.out, HNX.out⟩
          case measure => simp [intOf]; omega
    · obtain rfl : i = xs.length := by omega
      gi_wp2
      go_end0
      exact ⟨⟨_, rfl⟩, .inl ⟨_, rfl, by rw [nxsP_end] at hJs; exact hJs⟩⟩
abbrev NxsT (xs : List ByteArray) (r : ByteArray) := { x : List UInt8 × Nat // x ∈ nxs xs r }
theorem nextsf_stops (n : Nat) (hn : 1 ≤ n) (c0 c1 c : Nat) (xs : List ByteArray) (r : ByteArray) (A : Option Addr) (hc : xs.length ≤ 4294967296) (Kp : World → World → Prop) (hKr : ∀ W, Kp W W) (hKt : ∀ {X Y Z : World}, Kp X Y → Kp Y Z → Kp X Z) (w : World)
    (hR : ∀ W W', Below w.heap.size w W → Kp W W' → RowT W' A xs ∧ W'.cell? ⟨c0, 1, none⟩ = some (.slice A xs.length c) ∧ W'.cell? ⟨c1, 0, none⟩ = some (.string r)) :
    SeqStopsK Fence.wide n Tryz.prog 238 #[.pointer (some ⟨c0, 0, none⟩), .pointer (some ⟨c1, 0, none⟩)] (fun x : NxsT xs r => encN x.1) Kp (fun ys => ys.map Subtype.val = nxs xs r) (fun pre => pre.map Subtype.val <+: nxs xs r) (nxs xs r).length w := by
  intro l J Jx W hW hJ _ hY h0
  refine (nextsf_in n hn l c0 c1 c W.heap.size xs r A hc Kp hKr hKt (fun pre W => ∃ p : List (NxsT xs r), p.map Subtype.val = pre ∧ J p W) (fun pre W => ∃ p : List (NxsT xs r), p.map Subtype.val = pre ∧ Jx p W)
    (fun s A B row ⟨p, e, h⟩ hg hr => ⟨p, e, hJ p A B row h hg hr⟩) ?_ W (fun W' hW' => hR W W' hW hW') ⟨[], rfl, h0⟩).mono ?_
  · rintro pre x W1 ⟨p, rfl, h⟩ hp
    have hx : x ∈ nxs xs r := hp.subset (by simp)
    have hl := hp.length_le
    simp at hl
    refine (hY p ⟨x, hx⟩ W1 h (by omega)).mono ?_
    rintro e W' (⟨h1, h2, h3⟩ | ⟨h1, h2⟩)
    · exact .inl ⟨h1, ⟨_, by simp, h2⟩, h3⟩
    · exact .inr ⟨h1, ⟨_, by simp, h2⟩⟩
  · rintro e W' ⟨h1, ⟨ys, rfl, p, h2, h3⟩ | ⟨pre, h2, p, rfl, h3⟩⟩
    · exact ⟨h1, .inl ⟨p, h2, h3⟩⟩
    · exact ⟨h1, .inr ⟨p, h2, h3⟩⟩
end Go.Proofs.YtpppbkdbpbpinaaGreatDoor
