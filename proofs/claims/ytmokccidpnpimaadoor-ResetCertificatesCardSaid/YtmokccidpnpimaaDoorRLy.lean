/- grooveref44.Layers: its contract. -/
import Derived.Test.YtmokccidpnpimaaDoorPrvL
import Derived.Test.YtmokccidpnpimaaDoorLw44
import Derived.Deep.RegionHeld3
set_option linter.unusedVariables false
namespace Go.Proofs.YtmokccidpnpimaaDoor
open Go.RowKit Go.Maps
/-- the map holds just these numbers -/
def SeenS (w : World) (M : Nat) (S : List Nat) : Prop := ∃ T, SeenV w M T ∧ T.length ≤ 64 ∧ ∀ x, x ∈ T ↔ x ∈ S
theorem SeenS.below {w w' : World} {M C : Nat} {S : List Nat} (h : SeenS w M S) (hb : Below C w w') (hc : w.heap.size ≤ C) : SeenS w' M S := by
  obtain ⟨T, a, b, c⟩ := h
  exact ⟨T, a.belowL hb hc, b, c⟩
theorem SeenS.kept {w w' : World} {M : Nat} {S : List Nat} {row : Option Nat} (h : SeenS w M S) (hg : w.grownBy w' row) (hne : some M ≠ row) : SeenS w' M S := by
  obtain ⟨T, a, b, c⟩ := h
  exact ⟨T, a.kept hg hne, b, c⟩
theorem SeenS.lt {w : World} {M : Nat} {S : List Nat} (h : SeenS w M S) : M < w.heap.size := by
  obtain ⟨T, a, _, _⟩ := h
  exact a.lt
theorem SeenS.obj {w : World} {M : Nat} {S : List Nat} (h : SeenS w M S) : ∃ T, SeenV w M T := by
  obtain ⟨T, a, _, _⟩ := h
  exact ⟨T, a⟩
theorem SeenS.look {w : World} {M : Nat} {S : List Nat} (h : SeenS w M S) (z : Nat) (hz : z < 9223372036854775808) :
    (Instr.lookup 55 (.map (some M)) (.int .i64 z) false).run Tryd.prog w = .ok (.bool (decide (z ∈ S))) w := by
  obtain ⟨T, a, b, c⟩ := h
  rw [a.look z hz]
  simp only [c]
/-- what a round keeps: the row that is made (blocks from g on), the maps N and Q, the layer M, all blocks of cells that lay -/
structure RLy (W0 W1 : World) (C g : Nat) (lv : Value) (zs : List Int) (N Q M : Nat) (S1 S2 now : List Nat) (w : World) : Prop where
  row : Ints w g lv zs
  kc : KeepC W0 w
  mN : SeenV w N S1
  mQ : SeenV w Q S2
  mM : SeenS w M now
  bel : Below C W1 w
theorem RLy.belowL {W0 W1 w w' : World} {C g : Nat} {lv : Value} {zs : List Int} {N Q M : Nat} {S1 S2 now : List Nat} (h : RLy W0 W1 C g lv zs N Q M S1 S2 now w) (hC : C ≤ W1.heap.size) (hb : Below w.heap.size w w') : RLy W0 W1 C g lv zs N Q M S1 S2 now w' :=
  ⟨h.row.below hb (Nat.le_refl _), h.kc.trans (KeepC.below hb), h.mN.belowL hb (Nat.le_refl _), h.mQ.belowL hb (Nat.le_refl _), h.mM.below hb (Nat.le_refl _), Below.go h.bel hC hb⟩
theorem RLy.app {W0 W1 w w' : World} {C g : Nat} {lv v' : Value} {zs zs' : List Int} {N Q M : Nat} {S1 S2 now : List Nat} (h : RLy W0 W1 C g lv zs N Q M S1 S2 now w) (hC : C ≤ W1.heap.size) (hg0 : W0.heap.size ≤ g) (hCg : C ≤ g) {o : Obj} (hg : (w.alloc o).grownBy w' lv.ownBlock) (hr : Ints w' g v' zs') : RLy W0 W1 C g v' zs' N Q M S1 S2 now w' := by
  have hra : Ints (w.alloc o) g lv zs := h.row.alloc o
  have hs := h.bel.size
  refine ⟨hr, fun j c t e => ?_, (h.mN.alloc o).kept hg (row_ne_map hra (h.mN.alloc o)), (h.mQ.alloc o).kept hg (row_ne_map hra (h.mQ.alloc o)), ?_, (h.bel.alloc (by omega) o).grown hg (by simp; omega) (fun j e => by have := (World.ownsRow.lt hra j e).1; omega)⟩
  · have h1 := h.kc j c t e
    have hjl := (Array.getElem?_eq_some_iff.1 h1).1
    have hj0 := (Array.getElem?_eq_some_iff.1 e).1
    have h2 := (heap_alloc_old w o hjl).trans h1
    exact (hg.block j (Array.getElem?_eq_some_iff.1 h2).1 (fun e2 => by have := (World.ownsRow.lt hra j e2.symm).1; omega)).trans h2
  · obtain ⟨T, a, b, c⟩ := h.mM
    exact ⟨T, (a.alloc o).kept hg (row_ne_map hra (a.alloc o)), b, c⟩
theorem RLy.putQ {W0 W1 w w' : World} {C g : Nat} {lv : Value} {zs : List Int} {N Q M : Nat} {S1 S2 S2' now : List Nat} (h : RLy W0 W1 C g lv zs N Q M S1 S2 now w) (hC : C ≤ W1.heap.size) (hCQ : C ≤ Q) (hNQ : N ≠ Q) (hMQ : M ≠ Q) (hg : w.grownBy w' (some Q)) (hQ : SeenV w' Q S2') : RLy W0 W1 C g lv zs N Q M S1 S2' now w' :=
  ⟨h.row.keepC (KeepC.map_ h.mQ hg), h.kc.trans (KeepC.map_ h.mQ hg), h.mN.kept hg (fun e => hNQ (by cases e; rfl)), hQ, h.mM.kept hg (fun e => hMQ (by cases e; rfl)), h.bel.grown hg (by have := h.bel.size; omega) (fun j e => by cases e; exact hCQ)⟩
theorem RLy.putN {W0 W1 w w' : World} {C g : Nat} {lv : Value} {zs : List Int} {N Q M : Nat} {S1 S1' S2 now : List Nat} (h : RLy W0 W1 C g lv zs N Q M S1 S2 now w) (hC : C ≤ W1.heap.size) (hCN : C ≤ N) (hNQ : N ≠ Q) (hMN : M ≠ N) (hg : w.grownBy w' (some N)) (hN : SeenV w' N S1') : RLy W0 W1 C g lv zs N Q M S1' S2 now w' :=
  ⟨h.row.keepC (KeepC.map_ h.mN hg), h.kc.trans (KeepC.map_ h.mN hg), hN, h.mQ.kept hg (fun e => hNQ (by cases e; rfl)), h.mM.kept hg (fun e => hMN (by cases e; rfl)), h.bel.grown hg (by have := h.bel.size; omega) (fun j e => by cases e; exact hCN)⟩
/-- the first j numbers of a list are below n, the others are not -/
def CutAt (now : List Nat) (j n : Nat) : Prop := j ≤ now.length ∧ (∀ i, i < j → now.getD i 0 < n) ∧ ∀ i, j ≤ i → i < now.length → n ≤ now.getD i 0
theorem getD_mem {now : List Nat} {i : Nat} (h : i < now.length) : now.getD i 0 ∈ now := by
  rw [List.getD_eq_getElem?_getD, List.getElem?_eq_getElem h]
  exact List.getElem_mem h
theorem mem_getD {now : List Nat} {n : Nat} (h : n ∈ now) : ∃ i, i < now.length ∧ now.getD i 0 = n := by
  obtain ⟨i, hi, rfl⟩ := List.getElem_of_mem h
  exact ⟨i, hi, by rw [List.getD_eq_getElem?_getD, List.getElem?_eq_getElem hi]; rfl⟩
theorem CutAt.no {now : List Nat} {j n : Nat} (h : CutAt now j n) (hm : n ∉ now) : CutAt now j (n + 1) :=
  ⟨h.1, fun i hi => by have := h.2.1 i hi; omega, fun i h1 h2 => by
    have := h.2.2 i h1 h2
    rcases Nat.lt_or_ge n (now.getD i 0) with e | e
    · exact e
    · exact absurd (show n ∈ now by rw [show n = now.getD i 0 by omega]; exact getD_mem h2) hm⟩
theorem CutAt.yes {now : List Nat} {j n : Nat} (hs : now.Pairwise (· < ·)) (h : CutAt now j n) (hm : n ∈ now) : j < now.length ∧ now.getD j 0 = n ∧ CutAt now (j + 1) (n + 1) := by
  have hord : ∀ a b, a < b → b < now.length → now.getD a 0 < now.getD b 0 := fun a b hab hb => by
    rw [List.getD_eq_getElem?_getD, List.getElem?_eq_getElem (show a < now.length by omega), List.getD_eq_getElem?_getD, List.getElem?_eq_getElem hb]
    exact List.pairwise_iff_getElem.1 hs a b (by omega) hb hab
  obtain ⟨i, hi, he⟩ := mem_getD hm
  have hji : j ≤ i := by
    rcases Nat.lt_or_ge i j with e | e
    · have := h.2.1 i e; omega
    · exact e
  have hj : j = i := by
    rcases Nat.lt_or_ge j i with e | e
    · have h1 := h.2.2 j (Nat.le_refl _) (by omega)
      have h2 := hord j i e hi
      omega
    · omega
  subst hj
  refine ⟨hi, he, hi, fun a ha => ?_, fun a h1 h2 => ?_⟩
  · by_cases e : a < j
    · have := h.2.1 a e; omega
    · rw [show a = j by omega, he]; omega
  · have := hord j a (by omega) h2
    omega
set_option maxRecDepth 100000 in
set_option maxHeartbeats 4000000 in
theorem zrLayers_any (L : Int) (rows : List (List Int)) (A : Option Addr) (cc : Nat) (w : World) (hg : grt L rows.length = false) (hR : RowD w A rows) (hT : TabZ w) (hb : rows.length ≤ 9223372036854775807) :
    Calls Tryd.prog 16 #[.agg #[.int .i64 L, .slice A rows.length cc]] w fun e w' => ∃ v, e = .returned (.tuple #[v, .int .i64 (layE L rows)]) ∧ OutV w' w.heap.size v (layO L rows) ∧ Below w.heap.size w w' := by
  have hB0 : Below w.heap.size w (w.alloc (Obj.cells #[.int .i64 L, .slice A rows.length cc] 24)) := (Below.refl _ w).alloc (Nat.le_refl _) _
  have HR := hide (hR.below hB0)
  have HT := hide (hT.below hB0)
  obtain ⟨B, hBB⟩ : ∃ B, w.heap.size = B := ⟨_, rfl⟩
  have hbx : BoxA (w.alloc (Obj.cells #[.int .i64 L, .slice A rows.length cc] 24)) B L A rows.length cc := by rw [← hBB]; exact heap_alloc_new w _
  have k0 := hbx.c0
  have k1 := hbx.c1
  have hsz : (w.alloc (Obj.cells #[.int .i64 L, .slice A rows.length cc] 24)).heap.size = B + 1 := by rw [← hBB]; simp
  have HS := hide (fun W (h : RowD W A rows) (hT : TabZ W) => zrShortest_any L rows A cc W hg h hT hb)
  by_cases h0 : chkA L rows = 0
  · obtain ⟨l, rfl, hA⟩ := aut_of hg h0
    rw [shrV_ok h0] at HS
    have hn := hA.n6
    obtain ⟨s, bo, hR0⟩ : ∃ s bo, first rows l (fullS rows) = (s, bo) := ⟨_, _, rfl⟩
    have HFS := hide (first_size hA (full_lt rows.length))
    unfold fullS at hR0 HS HFS
    rw [hR0] at HS HFS
    cases bo with
    | false =>
      obtain ⟨e1, e2⟩ := lay_no h0 hR0
      rw [e1, e2]
      clear hR hT hg h0 hA hR0 e1 e2 HFS
      go_enter Tryd.func16, Tryd.ntmps16
      go_wp2_with fail
      generalize w.alloc (Obj.cells #[.int .i64 (l : Int), .slice A rows.length cc] 24) = W1 at hB0 HR HT hbx k0 k1 hsz ⊢
      go_wp2_with (go_at_call 32; refine (HS.out W1 HR.out HT.out).mono ?_; rintro e w2 ⟨rfl, hB2⟩)
      go_ret2
      exact ⟨_, rfl, OutV.nil_ _ _, hBB ▸ hB0.trans (hB2.mono (by omega))⟩
    | true =>
      obtain ⟨e1, e2⟩ := lay_ok h0 hR0
      rw [e1, e2]
      have HA := hide hA
      have hs64 : s.size ≤ 64 := HFS.out
      have hl3 := hA.l3
      have HFU := hide (fun W => zfull_any rows l A cc W (by omega))
      obtain ⟨F, hFF⟩ : ∃ F, 2 ^ rows.length - 1 = F := ⟨_, rfl⟩
      have hF64 : F < 64 := by rw [← hFF]; exact Nat.lt_of_lt_of_le (full_lt _) hA.pow
      have HL0 := hide (show layS rows l 0 = ([F], [F]) by rw [← hFF]; rfl)
      have HF2 := hide (show F + 1 = 2 ^ rows.length by rw [← hFF]; have := Nat.pow_pos (n := rows.length) (show 0 < 2 by decide); omega)
      rw [hFF] at HFU
      have hmm := @run_makeMap Tryd.prog
      clear hR hT hg h0 hA hR0 e1 e2 hFF HFS
      go_enter Tryd.func16, Tryd.ntmps16
      go_wp2_with fail
      generalize w.alloc (Obj.cells #[.int .i64 (l : Int), .slice A rows.length cc] 24) = W1 at hB0 HR HT hbx k0 k1 hsz ⊢
      have lB : B < W1.heap.size := by omega
      go_wp2_with fail
      refine (HS.out W1 HR.out HT.out).mono ?_
      rintro e w2 ⟨rfl, hB2⟩
      replace hB2 : Below (B + 1) W1 w2 := hB2.mono (Nat.le_of_eq hsz.symm)
      have m0 := hbx.b0 hB2
      have m1 := hbx.b1 hB2
      have hs2 := hB2.size
      have c0 := cell_up (cell_up m0 (Obj.cells #[] 27)) (Obj.map #[] 0)
      have c1 := cell_up (cell_up m1 (Obj.cells #[] 27)) (Obj.map #[] 0)
      have hB3 : Below (B + 1) W1 ((w2.alloc (Obj.cells #[] 27)).alloc (Obj.map #[] 0)) := (hB2.alloc (by omega) _).alloc (by simp; omega) _
      have hO3 : OutV ((w2.alloc (Obj.cells #[] 27)).alloc (Obj.map #[] 0)) (B + 1) (.slice (some ⟨w2.heap.size, 0, none⟩) 0 0) [] := (OutV.empty_ rfl (by omega)).alloc _
      have hM3 : SeenV ((w2.alloc (Obj.cells #[] 27)).alloc (Obj.map #[] 0)) (w2.heap.size + 1) [] := SeenV.made_ (by simp)
      have hc1 : B + 1 ≤ W1.heap.size := by omega
      obtain ⟨P, hP⟩ : ∃ P, w2.heap.size = P := ⟨_, rfl⟩
      rw [hP] at hO3 hM3
      have hBP : B + 1 ≤ P := by omega
      have HO3 := hide hO3
      have HM3 := hide hM3
      have HB3 := hide hB3
      clear hO3 hM3 hB3
      go_wp2_with fail
      generalize (w2.alloc (Obj.cells #[] 27)).alloc (Obj.map #[] 0) = w3 at HO3 HM3 HB3 c0 c1 ⊢
      refine (HFU.out _).mono ?_
      rintro e w4 ⟨rfl, hX⟩
      have hB4 := Below.go HB3.out hc1 hX
      have hM4 := HM3.out.belowL hX (Nat.le_refl _)
      have hO4 := HO3.out.keepC (KeepC.below hX)
      obtain ⟨w5, hrun5, hM5, hg5⟩ := hM4.store (by simp) F (by omega)
      have hO5 := hO4.keepC (KeepC.map_ hM4 hg5)
      have hB5 : Below (B + 1) W1 w5 := hB4.grown hg5 (by have := hB4.size; omega) (fun j e => by cases e; omega)
      have hM6 : SeenV (w5.alloc (Obj.map #[] 0)) w5.heap.size [] := SeenV.made_ rfl
      have hQ6 := hM5.alloc (Obj.map #[] 0)
      have hO6 := hO5.alloc (Obj.map #[] 0)
      have hB6 : Below (B + 1) W1 (w5.alloc (Obj.map #[] 0)) := hB5.alloc (by have := hB5.size; omega) _
      have m0 := cell_up (hbx.b0 hB5) (Obj.map #[] 0)
      have m1 := cell_up (hbx.b1 hB5) (Obj.map #[] 0)
      have hPM : P + 1 < w5.heap.size := hM5.lt
      have H6 := hide (And.intro hM6 (And.intro hQ6 (And.intro hO6 hB6)))
      clear hX hB4 hM4 hO4 hM5 hg5 hO5 hB5 hM6 hQ6 hO6 hB6
      obtain ⟨M, hMM⟩ : ∃ M, w5.heap.size = M := ⟨_, rfl⟩
      rw [hMM] at H6 hPM
      go_wp2_with fail
      try rw [hMM]
      generalize w5.alloc (Obj.map #[] 0) = w6 at H6 m0 m1 ⊢
      obtain ⟨hM6, hQ6, hO6, hB6⟩ := H6.out
      refine (HFU.out _).mono ?_
      rintro e w7 ⟨rfl, hX⟩
      have hB7 := Below.go hB6 hc1 hX
      have hM7 := hM6.belowL hX (Nat.le_refl _)
      have hQ7 := hQ6.belowL hX (Nat.le_refl _)
      have hO7 := hO6.keepC (KeepC.below hX)
      obtain ⟨w8, hrun8, hM8, hg8⟩ := hM7.store (by simp) F (by omega)
      have hQ8 := hQ7.kept hg8 (by simp; omega)
      have hO8 := hO7.keepC (KeepC.map_ hM7 hg8)
      have hB8 : Below (B + 1) W1 w8 := hB7.grown hg8 (by have := hB7.size; omega) (fun j e => by cases e; omega)
      have HS8 : Hid (SeenS w8 M (layS rows l 0).1) := hide (by rw [HL0.out]; exact ⟨[F], hM8, by simp, fun x => Iff.rfl⟩)
      have H8 := hide (And.intro hQ8 (And.intro hO8 hB8))
      clear hX hB7 hM7 hQ7 hO7 hM8 hg8 hQ8 hO8 hB8 hM6 hQ6 hO6 hB6 H6
      go_wp2
      go_loopg [7, 9, 10] s.size (fun gk ov mv iv wr => ∃ i M : Nat, gk = s.size - i ∧ iv = .int .i64 i ∧ i ≤ s.size ∧ mv = .map (some M) ∧ P + 1 < M ∧ OutV wr (B + 1) ov ((lays rows l i).map ints) ∧ SeenS wr M (layS rows l i).1 ∧ SeenV wr (P + 1) (layS rows l i).2 ∧ Below (B + 1) W1 wr)
      case atStart => exact ⟨0, M, rfl, rfl, Nat.zero_le _, rfl, hPM, H8.out.2.1, HS8.out, by rw [HL0.out]; exact H8.out.1, H8.out.2.2⟩
      case round =>
        obtain ⟨i, M, hgk, rfl, hi, rfl, hPM, hO, hM, hQ, hB⟩ := hrel
        clear HS8 H8
        by_cases his : i < s.size
        · have hDif := layS_dif HA.out i
          have hSor := layS_sorted HA.out i
          obtain ⟨now, seen, hns⟩ : ∃ now seen, layS rows l i = (now, seen) := ⟨_, _, rfl⟩
          have HN1 := hide (layS_next hns)
          have HN0 := hide (lays_succ rows l i)
          rw [hns] at HN0 hM hQ hDif hSor
          have hlk : ((lays rows l i).map ints).length ≤ 64 := by rw [List.length_map, lays_len]; omega
          obtain ⟨ls, hls⟩ : ∃ ls, (lays rows l i).map ints = ls := ⟨_, rfl⟩
          rw [hls] at hO hlk
          have HLS := hide hls
          have HDF := hide hDif
          have HSO := hide hSor
          have hdl : now.length ≤ 64 := hDif.2.2
          have hsB := hB.size
          have hPl := hQ.lt
          have hMl := hM.lt
          obtain ⟨W0, rfl⟩ : ∃ W0, W0 = wr := ⟨_, rfl⟩
          have hR0 : RLy W0 W1 (B + 1) W0.heap.size (.slice (some ⟨W0.heap.size, 0, none⟩) 0 0) (ints (now.take 0)) (W0.heap.size + 1) (P + 1) M (nxtK rows l now seen 0) (seen ++ nxtK rows l now seen 0) now ((W0.alloc (Obj.cells #[] 3)).alloc (Obj.map #[] 0)) :=
            ⟨(Ints.empty_ rfl (Nat.le_refl _)).alloc _, KeepC.below (((Below.refl _ W0).alloc (Nat.le_refl _) _).alloc (by simp) _), SeenV.made_ (by simp), by rw [show seen ++ nxtK rows l now seen 0 = seen by simp [nxtK]]; exact (hQ.alloc _).alloc _, by
              obtain ⟨T, a, b, c⟩ := hM
              exact ⟨T, (a.alloc _).alloc _, b, c⟩, (hB.alloc (by omega) _).alloc (by simp; omega) _⟩
          have HR0 := hide hR0
          have HO := hide hO
          clear hDif hSor hls hns hO hR0 hQ hM hB
          obtain ⟨g, hgg⟩ : ∃ g, W0.heap.size = g := ⟨_, rfl⟩
          rw [hgg] at HR0 hPl hMl
          have HG := hide hgg
          have hBg : B + 1 ≤ g := by omega
          go_wp2_with fail
          try rw [hgg]
          clear hgg
          generalize (W0.alloc (Obj.cells #[] 3)).alloc (Obj.map #[] 0) = W5 at HR0 ⊢
          go_loopg [11, 13] (F + 1) (fun gn lv nv wx => ∃ n j : Nat, gn = F + 1 - n ∧ nv = .int .i64 n ∧ n ≤ F + 1 ∧ Hid (CutAt now j n) ∧ RLy W0 W1 (B + 1) g lv (ints (now.take j)) (g + 1) (P + 1) M (nxtK rows l now seen j) (seen ++ nxtK rows l now seen j) now wx)
          case atStart => exact ⟨0, 0, rfl, rfl, Nat.zero_le _, hide ⟨Nat.zero_le _, fun i h => absurd h (by omega), fun i _ _ => Nat.zero_le _⟩, HR0.out⟩
          case round =>
            obtain ⟨n, j, hgn, rfl, hn1, hcut, hR⟩ := hrel
            clear HR0
            have m0 := hbx.b0 hR.bel
            have m1 := hbx.b1 hR.bel
            have HRy := hide hR
            clear hR
            by_cases hnF : n ≤ F
            · by_cases hm : n ∈ now
              · obtain ⟨y1, y2, y3⟩ := hcut.out.yes HSO.out hm
                have HY3 := hide y3
                have HDM : Hid (decide (n ∈ now) = true) := hide (decide_eq_true hm)
                have HTK := hide (show ints (now.take (j + 1)) = ints (now.take j) ++ [(n : Int)] by
                  rw [List.take_succ_eq_append_getElem y1, ints_append]
                  congr 1
                  rw [List.getD_eq_getElem?_getD, List.getElem?_eq_getElem y1] at y2
                  rw [← y2]
                  rfl)
                have HNS := hide (show nxtK rows l now seen (j + 1) = nxtK rows l now seen j ++ snd (frK rows n (seen ++ nxtK rows l now seen j) l) by rw [nxtK_succ, y2])
                have hzl := nxtK_len HA.out HDF.out.1 (now := now) (j + 1)
                have hn2 : n < 2 ^ rows.length := by rw [← y2]; exact HDF.out.2.1 _ (getD_mem y1)
                have hil : (ints (now.take j)).length ≤ 64 := by rw [ints_len, List.length_take]; omega
                have HIL := hide hil
                have HFL := hide (fun k (hk : k ≤ l) => ((HDF.out.1.nxt HA.out now j).fr (S := n) HA.out k hk).len HA.out)
                generalize nxtK rows l now seen j = z at HRy HNS HFL
                clear hm y2 y3 hil hzl
                have hn64 : n < 64 := by omega
                go_wp2_with (first
                  | (go_at_call 41; refine (HFU.out _).mono ?_; rintro e w3 ⟨rfl, hX⟩; have hR3 := HRy.out.belowL hc1 hX; have hlook := hR3.mM.look n (by omega); rw [HDM.out] at hlook; have hs3 := hR3.bel.size; have hgl := hR3.mN.lt; have HR3 := hide hR3; have hrw := hR3.row; clear hR3 hX)
                  | (at_builtin; refine wpList_app_ints rfl (.tmp 54) (.tmp 56) rfl g _ _ rfl (hrw.alloc _) _ 1 [(n : Int)] rfl rfl (heap_alloc_new _ _) (by have := HIL.out; omega) (by simp; omega) ?_; intro v5 w5 hI5 hg5))
                have hR5 : RLy W0 W1 (B + 1) g v5 (ints (now.take (j + 1))) (g + 1) (P + 1) M (z ++ snd (frK rows n (seen ++ z) 0)) (seen ++ z ++ snd (frK rows n (seen ++ z) 0)) now w5 := by
                  have := HR3.out.app hc1 (Nat.le_of_eq HG.out) hBg hg5 (show Ints w5 g v5 (ints (now.take (j + 1))) by rw [HTK.out]; exact hI5)
                  rw [show z ++ snd (frK rows n (seen ++ z) 0) = z by simp [snd, frK], show seen ++ z ++ snd (frK rows n (seen ++ z) 0) = seen ++ z by simp [snd, frK]]
                  exact this
                have HR5 := hide hR5
                clear hR5 hI5 hg5 hrw hlook
                go_loopg [14] l (fun gk kv wy => ∃ k : Nat, gk = l - k ∧ kv = .int .i64 k ∧ k ≤ l ∧ RLy W0 W1 (B + 1) g v5 (ints (now.take (j + 1))) (g + 1) (P + 1) M (z ++ snd (frK rows n (seen ++ z) k)) (seen ++ z ++ snd (frK rows n (seen ++ z) k)) now wy)
                case atStart => exact ⟨0, rfl, rfl, Nat.zero_le _, HR5.out⟩
                case round =>
                  obtain ⟨k, hgk2, rfl, hk, hR⟩ := hrel
                  clear HR5 m0 m1 hs3 hgl
                  have m0 := hbx.b0 hR.bel
                  have m1 := hbx.b1 hR.bel
                  have HRk := hide hR
                  clear hR
                  by_cases hkl : k < l
                  · have hy64 : img rows n k < 64 := Nat.lt_of_lt_of_le (HA.out.img_lt hkl _) HA.out.pow
                    have HIM := hide (fun W (h : RowD W A rows) => zimage_any rows l n k A cc W HA.out hkl hn64 h)
                    have HYE := hide (frK_yes (rows := rows) (S := n) (c := k) (seen := seen ++ z))
                    have HNO := hide (frK_no (rows := rows) (S := n) (c := k) (seen := seen ++ z))
                    have hlen := HFL.out k hk
                    have hlen1 := HFL.out (k + 1) hkl
                    obtain ⟨y, hy⟩ : ∃ y, img rows n k = y := ⟨_, rfl⟩
                    rw [hy] at hy64 HIM HYE HNO
                    obtain ⟨q, hq⟩ : ∃ q, frK rows n (seen ++ z) k = q := ⟨_, rfl⟩
                    rw [hq] at HYE HNO HRk hlen
                    clear hy hq
                    by_cases hm2 : y ∈ seen ++ z ++ snd q
                    · have HDM2 : Hid (decide (y ∈ seen ++ z ++ snd q) = true) := hide (decide_eq_true hm2)
                      have HE := hide (HYE.out hm2)
                      clear hm2 hlen hlen1
                      go_wp2_with (go_at_call 42; refine (HIM.out _ (HR.out.below (HRk.out.bel.mono (Nat.le_of_eq hsz)))).mono ?_; rintro e w6 ⟨rfl, hX⟩; have hR6 := HRk.out.belowL hc1 hX; have hlook := hR6.mQ.look y (by omega); rw [HDM2.out] at hlook; have HR6 := hide hR6; clear hR6 hX)
                      go_roundg (l - (k + 1))
                      case measure => omega
                      case rel => exact ⟨k + 1, rfl, by go_num, hkl, by rw [HE.out]; exact HR6.out⟩
                    · have HDM2 : Hid (decide (y ∈ seen ++ z ++ snd q) = false) := hide (decide_eq_false hm2)
                      have HE := hide (HNO.out hm2)
                      have HLQ := hide hlen
                      clear hm2 hlen hlen1
                      go_wp2_with (go_at_call 42; refine (HIM.out _ (HR.out.below (HRk.out.bel.mono (Nat.le_of_eq hsz)))).mono ?_; rintro e w6 ⟨rfl, hX⟩; have hR6 := HRk.out.belowL hc1 hX; have hlook := hR6.mQ.look y (by omega); rw [HDM2.out] at hlook; obtain ⟨w7, hrun7, hQ7, hg7⟩ := hR6.mQ.store (by have := HLQ.out; omega) y (by omega); have hR7 := hR6.putQ hc1 (by omega) (by omega) (by omega) hg7 hQ7; obtain ⟨w8, hrun8, hN8, hg8⟩ := hR7.mN.store (by have := HLQ.out; simp only [List.length_append] at this ⊢; omega) y (by omega); have hR8 := hR7.putN hc1 (by omega) (by omega) (by omega) hg8 hN8; have HR8 := hide hR8; clear hR6 hX hQ7 hg7 hR7 hN8 hg8 hR8)
                      go_roundg (l - (k + 1))
                      case measure => omega
                      case rel => exact ⟨k + 1, rfl, by go_num, hkl, by
                        rw [HE.out, show snd (q ++ [(k, y)]) = snd q ++ [y] by simp [snd], ← List.append_assoc, ← List.append_assoc]
                        exact HR8.out⟩
                  · obtain rfl : k = l := by omega
                    go_wp2
                    go_roundg (F + 1 - (n + 1))
                    case measure => omega
                    case rel => exact ⟨n + 1, j + 1, rfl, by go_num, by omega, HY3, by rw [HNS.out, ← List.append_assoc]; exact HRk.out⟩
              · have HDM : Hid (decide (n ∈ now) = false) := hide (decide_eq_false hm)
                have HC2 := hide (hcut.out.no hm)
                clear hm
                go_wp2_with (go_at_call 41; refine (HFU.out _).mono ?_; rintro e w3 ⟨rfl, hX⟩; have hR3 := HRy.out.belowL hc1 hX; have hlook := hR3.mM.look n (by omega); rw [HDM.out] at hlook; have HR3 := hide hR3; clear hR3 hX)
                go_roundg (F + 1 - (n + 1))
                case measure => omega
                case rel => exact ⟨n + 1, j, rfl, by go_num, by omega, HC2, HR3.out⟩
            · obtain rfl : n = F + 1 := by omega
              have hj : j = now.length := by
                rcases Nat.lt_or_ge j now.length with e | e
                · have h1 := hcut.out.2.2 j (Nat.le_refl _) e
                  have h2 := HDF.out.2.1 _ (getD_mem e)
                  have := HF2.out
                  omega
                · have := hcut.out.1; omega
              subst hj
              rw [List.take_length] at HRy
              have HZL := hide (nxtK_len HA.out HDF.out.1 (now := now) now.length)
              generalize nxtK rows l now seen now.length = z at HRy HN1 HZL
              obtain ⟨a3, c3, e3⟩ := HRy.out.row.shape
              subst e3
              have hle := hide (show (ints now).length ≤ 64 by rw [ints_len]; exact hdl)
              clear hcut
              go_wp2_with (first
                | (go_at_call 41; refine (HFU.out _).mono ?_; rintro e w3 ⟨rfl, hX⟩; have hR3 := HRy.out.belowL hc1 hX; have hO3 := HO.out.keepC hR3.kc; have hs3 := hR3.bel.size; have HR3 := hide hR3; have hrw := hR3.row; have hgl := hR3.mN.lt; clear hR3 hX)
                | (at_builtin; refine wpList_app_out rfl (.tmp 76) (.tmp 78) rfl (B + 1) _ ls rfl (hO3.alloc _) _ (ints now) ((hrw.mono hBg).alloc _) w3.heap.size rfl (heap_alloc_new w3 _) (by omega) (by simp; omega) ?_; intro v6 w6 hO6 hg6))
              obtain ⟨vs3, hrow3, _⟩ := id hO3
              have hR3 := HR3.out
              have hrow3a := World.ownsRow.alloc hrow3 (Obj.cells #[.slice a3 (ints now).length c3] 27)
              go_roundg (s.size - (i + 1))
              case measure => omega
              case rel =>
                refine ⟨i + 1, g + 1, rfl, by go_num, his, rfl, by omega, ?_, ?_, ?_, ?_⟩
                · rw [HN0.out, List.map_append, HLS.out]; exact hO6
                · rw [HN1.out]
                  have hN := (hR3.mN.alloc (Obj.cells #[.slice a3 (ints now).length c3] 27)).kept hg6 (row_ne_map hrow3a (hR3.mN.alloc _))
                  refine ⟨z, hN, ?_, fun x => srtN_mem.symm⟩
                  have := HZL.out
                  rw [List.length_append] at this
                  omega
                · rw [HN1.out]
                  exact (hR3.mQ.alloc (Obj.cells #[.slice a3 (ints now).length c3] 27)).kept hg6 (row_ne_map hrow3a (hR3.mQ.alloc _))
                · exact (hR3.bel.alloc (by omega) _).grown hg6 (by simp; omega) (fun j e => (World.ownsRow.lt hrow3a j e).1)
        · obtain rfl : i = s.size := by omega
          go_wp2
          go_ret2
          exact ⟨_, rfl, hO.mono (by omega), hBB ▸ hB0.trans (hB.mono (by omega))⟩
  · obtain ⟨e1, e2⟩ := lay_bad h0
    rw [e1, e2]
    rw [shrV_bad h0] at HS
    clear hR hT hg h0 e1 e2
    go_enter Tryd.func16, Tryd.ntmps16
    go_wp2_with fail
    generalize w.alloc (Obj.cells #[.int .i64 L, .slice A rows.length cc] 24) = W1 at hB0 HR HT hbx k0 k1 hsz ⊢
    go_wp2_with (go_at_call 32; refine (HS.out W1 HR.out HT.out).mono ?_; rintro e w2 ⟨rfl, hB2⟩)
    go_ret2
    exact ⟨_, rfl, OutV.nil_ _ _, hBB ▸ hB0.trans (hB2.mono (by omega))⟩
end Go.Proofs.YtmokccidpnpimaaDoor
