/- reset.Layers$1: the closure that puts a set at the end of the next layer; fresh with it. -/
import Derived.Test.YtmokccidpnpimaaDoorSrtI
set_option linter.unusedVariables false
namespace Go.Proofs.YtmokccidpnpimaaDoor
open Go.RowKit Go.Maps
/-- the box of a variable of type []int -/
def VarI (w : World) (N : Nat) (v : Value) : Prop := w.heap[N]? = some (.cells #[v] 27 (0, 0))
section
variable {w w' : World} {N B : Nat} {v : Value} {zs : List Int}
theorem VarI.lt (h : VarI w N v) : N < w.heap.size := (Array.getElem?_eq_some_iff.1 h).1
theorem VarI.cell (h : VarI w N v) : w.cell? ⟨N, 0, none⟩ = some v := by rw [cell_of_row w N 0 _ _ _ h]; rfl
theorem VarI.free_ (h : VarI w N v) : w.frozen? ⟨N, 0, none⟩ = false := by unfold VarI at h; simp [World.frozen?, h]
theorem VarI.set_ (h : VarI w N v) (u : Value) : VarI (w.setCell ⟨N, 0, none⟩ u) N u := by
  unfold VarI at h ⊢
  simp [World.setCell, Array.getElem?_modify, h]
theorem varI_ne_map {M : Nat} {S : List Nat} (h : VarI w N v) (hm : SeenV w M S) : M ≠ N := by
  rintro rfl
  obtain ⟨es, clock, h0⟩ := hm.obj
  unfold VarI at h
  rw [h0] at h
  cases h
theorem Ints.move (h : Ints w B v zs) (hh : ∀ j, j < w.heap.size → some j = v.ownBlock → w'.heap[j]? = w.heap[j]?) : Ints w' B v zs := by
  refine ⟨h.1, ?_⟩
  rcases h.2 with hn | ⟨g, cap, cur, rfl, hbg, hg, rest⟩
  · exact .inl hn
  · exact .inr ⟨g, cap, cur, rfl, hbg, (hh g (Array.getElem?_eq_some_iff.1 hg).1 rfl).trans hg, rest⟩
theorem row_ne_var {u : Value} (h : Ints w B v zs) (hq : VarI w N u) : v.ownBlock ≠ some N := by
  intro e
  rcases h.2 with ⟨rfl, _⟩ | ⟨g, cap, cur, rfl, hbg, hg, rest⟩
  · cases e
  · simp [Value.ownBlock] at e
    subst e
    unfold VarI at hq
    rw [hq] at hg
    simp at hg
end
set_option maxRecDepth 100000 in
set_option maxHeartbeats 4000000 in
theorem zLayersf_any (k y N : Nat) (v : Value) (zs : List Int) (w : World) (hN : VarI w N v) (hv : Ints w (N + 1) v zs) (hl : zs.length ≤ 100000) :
    Calls Tryd.prog 39 #[.int .i64 k, .int .i64 y, .pointer (some ⟨N, 0, none⟩)] w fun e w' => e = .returned (.tuple #[]) ∧
      (∃ v', VarI w' N v' ∧ Ints w' (N + 1) v' (zs ++ [(y : Int)])) ∧ KeepA w w' ∧ Below N w w' := by
  have cN := hN.cell
  have lN := hN.lt
  have hva : Ints (w.alloc (Obj.cells #[.int .i64 y] 3)) (N + 1) v zs := hv.alloc _
  have hNa : VarI (w.alloc (Obj.cells #[.int .i64 y] 3)) N v := by unfold VarI; rw [heap_alloc_old w _ lN]; exact hN
  have hs : (w.alloc (Obj.cells #[.int .i64 y] 3)).heap.size = w.heap.size + 1 := by simp
  have HE : Hid (∀ (u : Value) (w2 : World), Ints w2 (N + 1) u (zs ++ [(y : Int)]) → (w.alloc (Obj.cells #[.int .i64 y] 3)).grownBy w2 v.ownBlock → VarI w2 N v →
      (∃ v', VarI (w2.setCell ⟨N, 0, none⟩ u) N v' ∧ Ints (w2.setCell ⟨N, 0, none⟩ u) (N + 1) v' (zs ++ [(y : Int)])) ∧ KeepA w (w2.setCell ⟨N, 0, none⟩ u) ∧ Below N w (w2.setCell ⟨N, 0, none⟩ u)) := by
    refine hide fun u w2 hv2 hg2 hN2 => ?_
    refine ⟨⟨u, hN2.set_ u, hv2.move fun j hj e => Below.heap_setCell w2 ⟨N, 0, none⟩ u j (fun e2 => row_ne_var hv2 hN2 (by rw [← e, e2]))⟩, fun j c hj => ?_, ?_⟩
    · have hjl : j < w.heap.size := (Array.getElem?_eq_some_iff.1 hj).1
      have hjN : j ≠ N := by
        rintro rfl
        unfold VarI at hN
        rw [hN] at hj
        simp at hj
      have hjg : some j ≠ v.ownBlock := by
        intro e
        rcases hv.2 with ⟨rfl, _⟩ | ⟨g, cap, cur, rfl, hbg, hg, rest⟩
        · cases e
        · simp [Value.ownBlock] at e
          subst e
          rw [hg] at hj
          simp at hj
      rw [Below.heap_setCell w2 ⟨N, 0, none⟩ u j hjN, hg2.block j (by rw [hs]; omega) hjg, heap_alloc_old w _ hjl]
      exact hj
    · refine Below.setCell (((Below.refl N w).alloc (by omega) _).grown hg2 (by rw [hs]; omega) (fun j e => ?_)) (Nat.le_refl N) u
      have := (World.ownsRow.lt hv _ e).1
      omega
  go_enter Tryd.func39, Tryd.ntmps39
  go_wp2_with (at_builtin; refine wpList_app_ints rfl (.tmp 5) (.tmp 7) rfl (N + 1) v zs rfl hva w.heap.size 1 [(y : Int)] rfl rfl (heap_alloc_new w _) (by omega) (by simp; omega) ?_; intro u w2 hv2 hg2; have hN2 : VarI w2 N v := (hg2.block N (by rw [hs]; omega) (fun e => row_ne_var hva hNa e.symm)).trans hNa; have cN2 := hN2.cell; have fN2 := hN2.free_; obtain ⟨a', c', rfl⟩ := hv2.shape)
  go_end0
  have H := HE.out _ w2 hv2 hg2 hN2
  rw [show (zs ++ [(y : Int)]).length = zs.length + 1 by simp] at H
  exact ⟨rfl, H⟩
set_option maxRecDepth 100000 in
set_option maxHeartbeats 4000000 in
theorem zfreshL_any (rows : List (List Int)) (L S : Nat) (A : Option Addr) (cc : Nat) (M B Q : Nat) (seen : List Nat) (I : World → List (Nat × Nat) → Prop) (w : World) (hA : Aut rows L) (hS : S < 2 ^ rows.length)
    (hRT : ∀ W, Below B w W → RowD W A rows ∧ TabZ W) (hBM : B ≤ M) (hB : B ≤ w.heap.size) (hM : SeenV w M seen) (hI : I w []) (hlen : seen.length ≤ 100000)
    (hk1 : ∀ W W' l, I W l → Below W.heap.size W W' → I W' l)
    (hk2 : ∀ W W' l T, SeenV W M T → I W l → W.grownBy W' (some M) → I W' l)
    (hc : ∀ W l k y, I W l → k < L → l.length ≤ k → y < 2 ^ rows.length → Calls Tryd.prog 39 #[.int .i64 (k : Nat), .int .i64 (y : Nat), .pointer (some ⟨Q, 0, none⟩)] W fun e W' => e = .returned (.tuple #[]) ∧ I W' (l ++ [(k, y)]) ∧ (∀ T, SeenV W M T → SeenV W' M T) ∧ KeepA W W' ∧ Below B W W') :
    Calls Tryd.prog 38 #[.agg #[.int .i64 L, .slice A rows.length cc], .int .i64 S, .map (some M), .func (.func 39) #[] #[.pointer (some ⟨Q, 0, none⟩)]] w fun e w' => e = .returned (.tuple #[]) ∧ I w' (frK rows S seen L) ∧ SeenV w' M (seen ++ snd (frK rows S seen L)) ∧ Below B w w' := by
  have hB0 : Below w.heap.size w (w.alloc (Obj.cells #[.int .i64 L, .slice A rows.length cc] 24)) := (Below.refl _ w).alloc (Nat.le_refl _) _
  obtain ⟨N, hNN⟩ : ∃ N, w.heap.size = N := ⟨_, rfl⟩
  have hbx : BoxA (w.alloc (Obj.cells #[.int .i64 L, .slice A rows.length cc] 24)) N L A rows.length cc := by rw [← hNN]; exact heap_alloc_new w _
  have k0 := hbx.c0
  have k1 := hbx.c1
  have hI1 := hk1 _ _ _ hI hB0
  have hM1 := hM.belowL hB0 (Nat.le_refl _)
  have hB1 : Below B w (w.alloc (Obj.cells #[.int .i64 L, .slice A rows.length cc] 24)) := hB0.mono hB
  have hl3 := hA.l3
  have HA := hide hA
  have HS := hide hS
  have HRT := hide hRT
  have HK1 := hide hk1
  have HK2 := hide hk2
  have HC := hide hc
  clear hA hS hRT hk1 hk2 hc hM hI hB0
  go_enter Tryd.func38, Tryd.ntmps38
  go_wp2
  generalize w.alloc (Obj.cells #[.int .i64 L, .slice A rows.length cc] 24) = W1 at hB1 hbx k0 k1 hI1 hM1 ⊢
  clear k0 k1
  go_loopw [12] (fun iv wr => ∃ k : Nat, iv = .int .i64 k ∧ k ≤ L ∧ BoxA wr N L A rows.length cc ∧ I wr (frK rows S seen k) ∧ SeenV wr M (seen ++ snd (frK rows S seen k)) ∧ Below B w wr) (fun iv _ => L - (intOf iv).toNat)
  case atStart => exact ⟨0, rfl, Nat.zero_le _, hbx, hI1, by simpa [snd, frK] using hM1, hB1⟩
  case round =>
    obtain ⟨k, rfl, hk, hbx, hIk, hMk, hBk⟩ := hrel
    clear hI1 hM1 hB1
    by_cases hkl : k < L
    · have hgY := hide (frK_yes (rows := rows) (S := S) (seen := seen) (c := k))
      have hgN := hide (frK_no (rows := rows) (S := S) (seen := seen) (c := k))
      have hfl := frK_len (rows := rows) (S := S) (seen := seen) k
      have hy64 := HA.out.img_lt hkl S
      have hy2 : img rows S k < 64 := Nat.lt_of_lt_of_le hy64 HA.out.pow
      have HST : Hid (Calls Tryd.prog 57 #[.agg #[.int .i64 L, .slice A rows.length cc], .int .i64 S, .int .i64 k] wr fun e w' => e = .returned (.int .i64 (img rows S k)) ∧ Below wr.heap.size wr w') :=
        hide (zstep_any rows L S k A cc wr HA.out hkl HS.out (HRT.out wr hBk).1 (HRT.out wr hBk).2)
      obtain ⟨y, hy⟩ : ∃ y, img rows S k = y := ⟨_, rfl⟩
      rw [hy] at hgY hgN hy64 hy2 HST
      generalize frK rows S seen k = G at hIk hMk hgY hgN hfl
      have hlk : (seen ++ snd G).length ≤ 1000000 := by simp [snd]; omega
      have k0 := hbx.c0
      have k1 := hbx.c1
      have hBs := hBk.size
      clear hy
      by_cases hm : y ∈ seen ++ snd G
      · have HG := hide (hgY.out hm)
        replace hm := hide hm
        clear hgN hgY
        go_wp2_with (go_at_call 57; refine (HST.out).mono ?_; rintro e w3 ⟨rfl, hB3⟩; have hM3 := hMk.belowL hB3 (Nat.le_refl _); have hlook := hM3.look y (by omega); rw [decide_eq_true hm.out] at hlook)
        go_roundw
        case rel => exact ⟨k + 1, by go_num, hkl, (hB3.block N hbx.lt).trans hbx, by rw [HG.out]; exact HK1.out _ _ _ hIk hB3, by rw [HG.out]; exact hM3, hBk.trans (hB3.mono (by omega))⟩
        case measure => simp [intOf]; omega
      · have HG := hide (hgN.out hm)
        replace hm := hide hm
        clear hgN hgY
        go_wp2_with (first
          | (go_at_call 57; refine (HST.out).mono ?_; rintro e w3 ⟨rfl, hB3⟩; have hM3 := hMk.belowL hB3 (Nat.le_refl _); have hlook := hM3.look y (by omega); rw [decide_eq_false hm.out] at hlook; obtain ⟨w4, hrun, hM4, hg4⟩ := hM3.store hlk y (by omega); have hI4 := HK2.out _ _ _ _ hM3 (HK1.out _ _ _ hIk hB3) hg4)
          | (go_at_call 39; refine (HC.out _ _ k y hI4 hkl hfl hy64).mono ?_; rintro e w5 ⟨rfl, hI5, hM5, hA5, hB5⟩))
        go_roundw
        case rel =>
          have hbx3 : BoxA w3 N L A rows.length cc := (hB3.block N hbx.lt).trans hbx
          have hbx4 : BoxA w4 N L A rows.length cc := (hg4.block N hbx3.lt (boxA_ne_map hbx3 hM3)).trans hbx3
          have hB4 := (hBk.trans (hB3.mono (by omega))).grown hg4 (by have := hB3.size; omega) (fun j e => by cases e; exact hBM)
          refine ⟨k + 1, by go_num, hkl, hA5 _ _ hbx4, by rw [HG.out]; exact hI5, ?_, hB4.trans hB5⟩
          rw [HG.out, show snd (G ++ [(k, y)]) = snd G ++ [y] by simp [snd], ← List.append_assoc]
          exact hM5 _ hM4
        case measure => simp [intOf]; omega
    · obtain rfl : k = L := by omega
      go_wp2
      go_end0
      exact ⟨rfl, hIk, hMk, hBk⟩
end Go.Proofs.YtmokccidpnpimaaDoor
