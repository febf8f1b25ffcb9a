/- reset.Layers: its contract. -/
import Derived.Test.YtmokccidpnpimaaDoorOut
import Derived.Test.YtmokccidpnpimaaDoorSrcL
import Derived.Test.YtmokccidpnpimaaDoorShr
import Derived.Lib.OthersKept
import Derived.Deep.Cut
import Derived.Deep.RegionLaw
set_option linter.unusedVariables false
namespace Go.Proofs.YtmokccidpnpimaaDoor
open Go.RowKit Go.Maps
/-- the layers of an automaton, and what is wrong -/
def layO (L : Int) (rows : List (List Int)) : List (List Int) := if chkA L rows = 0 ∧ (fst44 rows L).2 = true then (lays rows L.toNat (fst44 rows L).1.size).map ints else []
def layE (L : Int) (rows : List (List Int)) : Int := if chkA L rows = 0 then (if (fst44 rows L).2 = true then 0 else 20) else 1
theorem lay_ok {L : Nat} {rows : List (List Int)} (h : chkA L rows = 0) {s : ByteArray} (hr : first rows L (fullS rows) = (s, true)) : layO L rows = (lays rows L s.size).map ints ∧ layE L rows = 0 := by
  unfold layO layE fst44
  rw [Int.toNat_natCast, hr]
  simp [h]
theorem lay_no {L : Nat} {rows : List (List Int)} (h : chkA L rows = 0) {s : ByteArray} (hr : first rows L (fullS rows) = (s, false)) : layO L rows = [] ∧ layE L rows = 20 := by
  unfold layO layE fst44
  rw [Int.toNat_natCast, hr]
  simp [h]
theorem lay_bad {L : Int} {rows : List (List Int)} (h : chkA L rows ≠ 0) : layO L rows = [] ∧ layE L rows = 1 := by
  unfold layO layE
  simp [h]
theorem cell_up {w : World} {p : Addr} {v : Value} (h : w.cell? p = some v) (o : Obj) : (w.alloc o).cell? p = some v := (World.cell?_alloc_lt _ _ _ (World.block_lt_of_cell? _ _ h)).trans h
set_option maxRecDepth 100000 in
theorem zall_exact (rows : List (List Int)) (L : Int) (A : Option Addr) (cc : Nat) (w : World) (hn : rows.length < 17) :
    Calls Tryd.prog 37 #[.agg #[.int .i64 L, .slice A rows.length cc]] w fun e w' => e = .returned (.int .i64 (2 ^ rows.length - 1 : Nat)) ∧ w' = w.alloc (Obj.cells #[.int .i64 L, .slice A rows.length cc] 24) := by
  have h1 := hide (allI _ hn)
  obtain ⟨h2, h3⟩ := allR _ hn
  go_enter Tryd.func37, Tryd.ntmps37
  go_wp2
  go_ret
  exact ⟨by rw [← h1.out]; rfl, rfl⟩
theorem put_bundle {W1 Wx : World} {C M F : Nat} (hM : SeenV Wx M []) (hF : F < 64) (hB : Below C W1 Wx) (hC : C ≤ M) :
    ∃ w6, (Instr.mapUpdate 55 (.map (some M)) (.int .i64 F) (.bool true)).run Tryd.prog Wx = .ok () w6 ∧ SeenV w6 M [F] ∧ Wx.grownBy w6 (some M) ∧ Below C W1 w6 := by
  obtain ⟨w6, hrun, hm6, hg6⟩ := hM.store (by simp) F (by omega)
  have := hM.lt
  exact ⟨w6, hrun, hm6, hg6, hB.grown hg6 (by omega) (fun j e => by cases e; omega)⟩
theorem SeenV.move {w w' : World} {M : Nat} {S : List Nat} (h : SeenV w M S) (hh : w'.heap[M]? = w.heap[M]?) : SeenV w' M S := by
  obtain ⟨D, ⟨es, clock, h0, h1⟩, h2⟩ := h
  exact ⟨D, ⟨es, clock, hh.trans h0, h1⟩, h2⟩
theorem KeepC.iter {w : World} {It : Nat} {s : ByteArray} {p : Nat} (h : w.heap[It]? = some (.stringIter s p)) (q : Nat) : KeepC w (w.iterAt It s q) := fun j c t e => by
  rw [Lib.iterAt_other w It j s q (by rintro rfl; rw [h] at e; cases e)]
  exact e
theorem layS_next {rows : List (List Int)} {L k : Nat} {now seen : List Nat} (h : layS rows L k = (now, seen)) : layS rows L (k + 1) = (srtN (nxtK rows L now seen now.length), seen ++ nxtK rows L now seen now.length) := by
  rw [show layS rows L (k + 1) = (srtN (nxtK rows L (layS rows L k).1 (layS rows L k).2 (layS rows L k).1.length), (layS rows L k).2 ++ nxtK rows L (layS rows L k).1 (layS rows L k).2 (layS rows L k).1.length) from rfl, h]
theorem nxtK_succ (rows : List (List Int)) (L : Nat) (now seen : List Nat) (i : Nat) : nxtK rows L now seen (i + 1) = nxtK rows L now seen i ++ snd (frK rows (now.getD i 0) (seen ++ nxtK rows L now seen i) L) := rfl
theorem nxtK_len {rows : List (List Int)} {L : Nat} (hA : Aut rows L) {now seen : List Nat} (h : Dif rows.length seen) (i : Nat) : (seen ++ nxtK rows L now seen i).length ≤ 64 := (h.nxt hA now i).len hA
/-- what a round of Layers keeps of the layer it makes -/
def MakI (W0 : World) (It N k : Nat) (s : ByteArray) (zs : List Int) (W : World) : Prop := (∃ v, VarI W N v ∧ Ints W (N + 1) v zs) ∧ KeepC W0 W ∧ W.heap[It]? = some (.stringIter s k)
theorem MakI.belowL {W0 W W' : World} {It N k : Nat} {s : ByteArray} {zs : List Int} (h : MakI W0 It N k s zs W) (hb : Below W.heap.size W W') : MakI W0 It N k s zs W' := by
  obtain ⟨⟨v, a, b⟩, c, d⟩ := h
  exact ⟨⟨v, (hb.block N a.lt).trans a, b.below hb (Nat.le_refl _)⟩, c.trans (KeepC.below hb), (hb.block It (Array.getElem?_eq_some_iff.1 d).1).trans d⟩
theorem MakI.map_ {W0 W W' : World} {It N k M : Nat} {s : ByteArray} {zs : List Int} {T : List Nat} (h : MakI W0 It N k s zs W) (hM : SeenV W M T) (hg : W.grownBy W' (some M)) : MakI W0 It N k s zs W' := by
  obtain ⟨⟨v, a, b⟩, c, d⟩ := h
  have hne : some It ≠ some M := by
    intro e
    cases e
    obtain ⟨es, clock, h0⟩ := hM.obj
    rw [h0] at d
    cases d
  exact ⟨⟨v, (KeepC.map_ hM hg) _ _ _ a, b.keepC (KeepC.map_ hM hg)⟩, c.trans (KeepC.map_ hM hg), (hg.block It (Array.getElem?_eq_some_iff.1 d).1 hne).trans d⟩
theorem OutV.mono {w : World} {B B' : Nat} {v : Value} {ls : List (List Int)} (h : OutV w B v ls) (hb : B' ≤ B) : OutV w B' v ls := by
  obtain ⟨vs, ⟨h1, h2⟩, h3⟩ := h
  refine ⟨vs, ⟨h1, ?_⟩, fun j hj => ?_⟩
  · rcases h2 with hn | ⟨g, cap, cur, rfl, hbg, hg, rest⟩
    · exact .inl hn
    · exact .inr ⟨g, cap, cur, rfl, by omega, hg, rest⟩
  · obtain ⟨u, hu, hI⟩ := h3 j hj
    exact ⟨u, hu, hI.mono hb⟩
set_option maxRecDepth 100000 in
set_option maxHeartbeats 4000000 in
theorem zLayers_any (L : Int) (rows : List (List Int)) (A : Option Addr) (cc : Nat) (w : World) (hg : grt L rows.length = false) (hR : RowD w A rows) (hT : TabZ w) (hb : rows.length ≤ 9223372036854775807) :
    Calls Tryd.prog 15 #[.agg #[.int .i64 L, .slice A rows.length cc]] w fun e w' => ∃ v, e = .returned (.tuple #[v, .int .i64 (layE L rows)]) ∧ OutV w' w.heap.size v (layO L rows) ∧ Below w.heap.size w w' := by
  have hB0 : Below w.heap.size w (w.alloc (Obj.cells #[.int .i64 L, .slice A rows.length cc] 24)) := (Below.refl _ w).alloc (Nat.le_refl _) _
  have HR := hide (hR.below hB0)
  have HT := hide (hT.below hB0)
  obtain ⟨B, hBB⟩ : ∃ B, w.heap.size = B := ⟨_, rfl⟩
  have hbx : BoxA (w.alloc (Obj.cells #[.int .i64 L, .slice A rows.length cc] 24)) B L A rows.length cc := by rw [← hBB]; exact heap_alloc_new w _
  have k0 := hbx.c0
  have k1 := hbx.c1
  have hsz : (w.alloc (Obj.cells #[.int .i64 L, .slice A rows.length cc] 24)).heap.size = B + 1 := by rw [← hBB]; simp
  have HS := hide (fun W (h : RowD W A rows) (hT : TabZ W) => zShortest_any L rows A cc W hg h hT hb)
  by_cases h0 : chkA L rows = 0
  · obtain ⟨l, rfl, hA⟩ := aut_of hg h0
    rw [shrV_ok h0] at HS
    have hn := hA.n6
    obtain ⟨s, bo, hR0⟩ : ∃ s bo, first rows l (fullS rows) = (s, bo) := ⟨_, _, rfl⟩
    have HFS := hide (first_size hA (full_lt rows.length))
    have HFF := hide (first_from (rows := rows) (L := l) (S := fullS rows) (by have := hA.l3; omega))
    unfold fullS at hR0 HS HFF
    rw [hR0] at HS HFS HFF
    cases bo with
    | false =>
      obtain ⟨e1, e2⟩ := lay_no h0 hR0
      rw [e1, e2]
      clear hR hT hg h0 hA hR0 e1 e2 HFS HFF
      go_enter Tryd.func15, Tryd.ntmps15
      go_wp2_with fail
      generalize w.alloc (Obj.cells #[.int .i64 (l : Int), .slice A rows.length cc] 24) = W1 at hB0 HR HT hbx k0 k1 hsz ⊢
      go_wp2_with (go_at_call 22; refine (HS.out W1 HR.out HT.out).mono ?_; rintro e w2 ⟨rfl, hB2⟩)
      go_ret2
      exact ⟨_, rfl, OutV.nil_ _ _, hBB ▸ hB0.trans (hB2.mono (by omega))⟩
    | true =>
      obtain ⟨e1, e2⟩ := lay_ok h0 hR0
      rw [e1, e2]
      have HA := hide hA
      have hs64 : s.size ≤ 64 := HFS.out
      have HOK := hide (HFF.out rfl).1
      have HAX := hide (fun W => zall_exact rows l A cc W (by omega))
      obtain ⟨F, hFF⟩ : ∃ F, 2 ^ rows.length - 1 = F := ⟨_, rfl⟩
      have hF64 : F < 64 := by rw [← hFF]; exact Nat.lt_of_lt_of_le (full_lt _) hA.pow
      have HL0 := hide (show layS rows l 0 = ([F], [F]) by rw [← hFF]; rfl)
      rw [hFF] at HAX
      have hmm := @run_makeMap Tryd.prog
      clear hR hT hg h0 hA hR0 e1 e2 hFF HFS
      go_enter Tryd.func15, Tryd.ntmps15
      go_wp2_with fail
      generalize w.alloc (Obj.cells #[.int .i64 (l : Int), .slice A rows.length cc] 24) = W1 at hB0 HR HT hbx k0 k1 hsz ⊢
      have lB : B < W1.heap.size := by omega
      go_wp2_with (go_at_call 22; refine (HS.out W1 HR.out HT.out).mono ?_; rintro e w2 ⟨rfl, hB2⟩)
      have hAcc : Below W1.heap.size W1 w2.drew := hB2.drew
      have m0 := (hAcc.cell (p := ⟨B, 0, none⟩) lB).trans k0
      have m1 := (hAcc.cell (p := ⟨B, 1, none⟩) lB).trans k1
      go_cut [7, 8] from 24 (fun nv mv wc => ∃ X M : Nat, nv = .slice (some ⟨X, 0, none⟩) 1 1 ∧ mv = .map (some M) ∧ B + 1 ≤ X ∧ B + 1 ≤ M ∧ Ints wc (B + 1) (.slice (some ⟨X, 0, none⟩) 1 1) [(F : Int)] ∧ SeenV wc M [F] ∧ Below (B + 1) W1 wc)
      case first =>
        have hle := hB2.size
        obtain ⟨v0, hrun0, hm0, hg0, hb0⟩ := put_bundle (W1 := W1) (Wx := ((((w2.alloc (Obj.cells #[.int .i64 (l : Int), .slice A rows.length cc] 24)).alloc (Obj.cells #[.int .i64 F] 3)).alloc (Obj.map #[] 0)).alloc (Obj.cells #[.int .i64 (l : Int), .slice A rows.length cc] 24)).drew) (C := B + 1) (M := (w2.heap.size + 1 + 1)) (F := F) (SeenV.alloc (SeenV.made_ (by simp)) _) hF64 ((((((hB2.mono (Nat.le_of_eq hsz.symm)).alloc (by first | omega | (simp; omega)) _).alloc (by first | omega | (simp; omega)) _).alloc (by first | omega | (simp; omega)) _).alloc (by first | omega | (simp; omega)) _)).drew (by omega)
        have hi0 : Ints v0 (B + 1) (.slice (some ⟨(w2.heap.size + 1), 0, none⟩) 1 1) [(F : Int)] := World.ownsRow.kept (w := ((((w2.alloc (Obj.cells #[.int .i64 (l : Int), .slice A rows.length cc] 24)).alloc (Obj.cells #[.int .i64 F] 3)).alloc (Obj.map #[] 0)).alloc (Obj.cells #[.int .i64 (l : Int), .slice A rows.length cc] 24)).drew) (Ints.alloc (Ints.alloc (Ints.one_ (by simp) (by omega) _) _) _) hg0 (.inr (by simp [Value.ownBlock] <;> omega))
        have a0 := (hb0.cell (p := ⟨B, 0, none⟩) (Nat.lt_succ_self B)).trans k0
        have c0 := (hb0.cell (p := ⟨B, 1, none⟩) (Nat.lt_succ_self B)).trans k1
        replace hm0 := hide hm0
        replace hb0 := hide hb0
        replace hi0 := hide hi0
        obtain ⟨v1, hrun1, hm1, hg1, hb1⟩ := put_bundle (W1 := W1) (Wx := ((((w2.alloc (Obj.cells #[.int .i64 (l : Int), .slice A rows.length cc] 24)).alloc (Obj.cells #[.int .i64 F] 3)).alloc (Obj.cells #[.int .i64 (l : Int), .slice A rows.length cc] 24)).alloc (Obj.map #[] 0)).drew) (C := B + 1) (M := (w2.heap.size + 1 + 1 + 1)) (F := F) (SeenV.made_ (by simp)) hF64 ((((((hB2.mono (Nat.le_of_eq hsz.symm)).alloc (by first | omega | (simp; omega)) _).alloc (by first | omega | (simp; omega)) _).alloc (by first | omega | (simp; omega)) _).alloc (by first | omega | (simp; omega)) _)).drew (by omega)
        have hi1 : Ints v1 (B + 1) (.slice (some ⟨(w2.heap.size + 1), 0, none⟩) 1 1) [(F : Int)] := World.ownsRow.kept (w := ((((w2.alloc (Obj.cells #[.int .i64 (l : Int), .slice A rows.length cc] 24)).alloc (Obj.cells #[.int .i64 F] 3)).alloc (Obj.cells #[.int .i64 (l : Int), .slice A rows.length cc] 24)).alloc (Obj.map #[] 0)).drew) (Ints.alloc (Ints.alloc (Ints.one_ (by simp) (by omega) _) _) _) hg1 (.inr (by simp [Value.ownBlock] <;> omega))
        have a1 := (hb1.cell (p := ⟨B, 0, none⟩) (Nat.lt_succ_self B)).trans k0
        have c1 := (hb1.cell (p := ⟨B, 1, none⟩) (Nat.lt_succ_self B)).trans k1
        replace hm1 := hide hm1
        replace hb1 := hide hb1
        replace hi1 := hide hi1
        obtain ⟨v2, hrun2, hm2, hg2, hb2⟩ := put_bundle (W1 := W1) (Wx := ((((w2.alloc (Obj.cells #[.int .i64 (l : Int), .slice A rows.length cc] 24)).alloc (Obj.map #[] 0)).alloc (Obj.cells #[.int .i64 F] 3)).alloc (Obj.cells #[.int .i64 (l : Int), .slice A rows.length cc] 24)).drew) (C := B + 1) (M := (w2.heap.size + 1)) (F := F) (SeenV.alloc (SeenV.alloc (SeenV.made_ (by simp)) _) _) hF64 ((((((hB2.mono (Nat.le_of_eq hsz.symm)).alloc (by first | omega | (simp; omega)) _).alloc (by first | omega | (simp; omega)) _).alloc (by first | omega | (simp; omega)) _).alloc (by first | omega | (simp; omega)) _)).drew (by omega)
        have hi2 : Ints v2 (B + 1) (.slice (some ⟨(w2.heap.size + 1 + 1), 0, none⟩) 1 1) [(F : Int)] := World.ownsRow.kept (w := ((((w2.alloc (Obj.cells #[.int .i64 (l : Int), .slice A rows.length cc] 24)).alloc (Obj.map #[] 0)).alloc (Obj.cells #[.int .i64 F] 3)).alloc (Obj.cells #[.int .i64 (l : Int), .slice A rows.length cc] 24)).drew) (Ints.alloc (Ints.one_ (by simp) (by omega) _) _) hg2 (.inr (by simp [Value.ownBlock] <;> omega))
        have a2 := (hb2.cell (p := ⟨B, 0, none⟩) (Nat.lt_succ_self B)).trans k0
        have c2 := (hb2.cell (p := ⟨B, 1, none⟩) (Nat.lt_succ_self B)).trans k1
        replace hm2 := hide hm2
        replace hb2 := hide hb2
        replace hi2 := hide hi2
        obtain ⟨v3, hrun3, hm3, hg3, hb3⟩ := put_bundle (W1 := W1) (Wx := ((((w2.alloc (Obj.map #[] 0)).alloc (Obj.cells #[.int .i64 (l : Int), .slice A rows.length cc] 24)).alloc (Obj.cells #[.int .i64 F] 3)).alloc (Obj.cells #[.int .i64 (l : Int), .slice A rows.length cc] 24)).drew) (C := B + 1) (M := (w2.heap.size)) (F := F) (SeenV.alloc (SeenV.alloc (SeenV.alloc (SeenV.made_ (by simp)) _) _) _) hF64 ((((((hB2.mono (Nat.le_of_eq hsz.symm)).alloc (by first | omega | (simp; omega)) _).alloc (by first | omega | (simp; omega)) _).alloc (by first | omega | (simp; omega)) _).alloc (by first | omega | (simp; omega)) _)).drew (by omega)
        have hi3 : Ints v3 (B + 1) (.slice (some ⟨(w2.heap.size + 1 + 1), 0, none⟩) 1 1) [(F : Int)] := World.ownsRow.kept (w := ((((w2.alloc (Obj.map #[] 0)).alloc (Obj.cells #[.int .i64 (l : Int), .slice A rows.length cc] 24)).alloc (Obj.cells #[.int .i64 F] 3)).alloc (Obj.cells #[.int .i64 (l : Int), .slice A rows.length cc] 24)).drew) (Ints.alloc (Ints.one_ (by simp) (by omega) _) _) hg3 (.inr (by simp [Value.ownBlock] <;> omega))
        have a3 := (hb3.cell (p := ⟨B, 0, none⟩) (Nat.lt_succ_self B)).trans k0
        have c3 := (hb3.cell (p := ⟨B, 1, none⟩) (Nat.lt_succ_self B)).trans k1
        replace hm3 := hide hm3
        replace hb3 := hide hb3
        replace hi3 := hide hi3
        obtain ⟨v4, hrun4, hm4, hg4, hb4⟩ := put_bundle (W1 := W1) (Wx := ((((w2.alloc (Obj.cells #[.int .i64 (l : Int), .slice A rows.length cc] 24)).alloc (Obj.cells #[.int .i64 (l : Int), .slice A rows.length cc] 24)).alloc (Obj.cells #[.int .i64 F] 3)).alloc (Obj.map #[] 0)).drew) (C := B + 1) (M := (w2.heap.size + 1 + 1 + 1)) (F := F) (SeenV.made_ (by simp)) hF64 ((((((hB2.mono (Nat.le_of_eq hsz.symm)).alloc (by first | omega | (simp; omega)) _).alloc (by first | omega | (simp; omega)) _).alloc (by first | omega | (simp; omega)) _).alloc (by first | omega | (simp; omega)) _)).drew (by omega)
        have hi4 : Ints v4 (B + 1) (.slice (some ⟨(w2.heap.size + 1 + 1), 0, none⟩) 1 1) [(F : Int)] := World.ownsRow.kept (w := ((((w2.alloc (Obj.cells #[.int .i64 (l : Int), .slice A rows.length cc] 24)).alloc (Obj.cells #[.int .i64 (l : Int), .slice A rows.length cc] 24)).alloc (Obj.cells #[.int .i64 F] 3)).alloc (Obj.map #[] 0)).drew) (Ints.alloc (Ints.one_ (by simp) (by omega) _) _) hg4 (.inr (by simp [Value.ownBlock] <;> omega))
        have a4 := (hb4.cell (p := ⟨B, 0, none⟩) (Nat.lt_succ_self B)).trans k0
        have c4 := (hb4.cell (p := ⟨B, 1, none⟩) (Nat.lt_succ_self B)).trans k1
        replace hm4 := hide hm4
        replace hb4 := hide hb4
        replace hi4 := hide hi4
        obtain ⟨v5, hrun5, hm5, hg5, hb5⟩ := put_bundle (W1 := W1) (Wx := ((((w2.alloc (Obj.cells #[.int .i64 (l : Int), .slice A rows.length cc] 24)).alloc (Obj.cells #[.int .i64 (l : Int), .slice A rows.length cc] 24)).alloc (Obj.map #[] 0)).alloc (Obj.cells #[.int .i64 F] 3)).drew) (C := B + 1) (M := (w2.heap.size + 1 + 1)) (F := F) (SeenV.alloc (SeenV.made_ (by simp)) _) hF64 ((((((hB2.mono (Nat.le_of_eq hsz.symm)).alloc (by first | omega | (simp; omega)) _).alloc (by first | omega | (simp; omega)) _).alloc (by first | omega | (simp; omega)) _).alloc (by first | omega | (simp; omega)) _)).drew (by omega)
        have hi5 : Ints v5 (B + 1) (.slice (some ⟨(w2.heap.size + 1 + 1 + 1), 0, none⟩) 1 1) [(F : Int)] := World.ownsRow.kept (w := ((((w2.alloc (Obj.cells #[.int .i64 (l : Int), .slice A rows.length cc] 24)).alloc (Obj.cells #[.int .i64 (l : Int), .slice A rows.length cc] 24)).alloc (Obj.map #[] 0)).alloc (Obj.cells #[.int .i64 F] 3)).drew) (Ints.one_ (by simp) (by omega) _) hg5 (.inr (by simp [Value.ownBlock] <;> omega))
        have a5 := (hb5.cell (p := ⟨B, 0, none⟩) (Nat.lt_succ_self B)).trans k0
        have c5 := (hb5.cell (p := ⟨B, 1, none⟩) (Nat.lt_succ_self B)).trans k1
        replace hm5 := hide hm5
        replace hb5 := hide hb5
        replace hi5 := hide hi5
        obtain ⟨v6, hrun6, hm6, hg6, hb6⟩ := put_bundle (W1 := W1) (Wx := ((((w2.alloc (Obj.cells #[.int .i64 (l : Int), .slice A rows.length cc] 24)).alloc (Obj.map #[] 0)).alloc (Obj.cells #[.int .i64 (l : Int), .slice A rows.length cc] 24)).alloc (Obj.cells #[.int .i64 F] 3)).drew) (C := B + 1) (M := (w2.heap.size + 1)) (F := F) (SeenV.alloc (SeenV.alloc (SeenV.made_ (by simp)) _) _) hF64 ((((((hB2.mono (Nat.le_of_eq hsz.symm)).alloc (by first | omega | (simp; omega)) _).alloc (by first | omega | (simp; omega)) _).alloc (by first | omega | (simp; omega)) _).alloc (by first | omega | (simp; omega)) _)).drew (by omega)
        have hi6 : Ints v6 (B + 1) (.slice (some ⟨(w2.heap.size + 1 + 1 + 1), 0, none⟩) 1 1) [(F : Int)] := World.ownsRow.kept (w := ((((w2.alloc (Obj.cells #[.int .i64 (l : Int), .slice A rows.length cc] 24)).alloc (Obj.map #[] 0)).alloc (Obj.cells #[.int .i64 (l : Int), .slice A rows.length cc] 24)).alloc (Obj.cells #[.int .i64 F] 3)).drew) (Ints.one_ (by simp) (by omega) _) hg6 (.inr (by simp [Value.ownBlock] <;> omega))
        have a6 := (hb6.cell (p := ⟨B, 0, none⟩) (Nat.lt_succ_self B)).trans k0
        have c6 := (hb6.cell (p := ⟨B, 1, none⟩) (Nat.lt_succ_self B)).trans k1
        replace hm6 := hide hm6
        replace hb6 := hide hb6
        replace hi6 := hide hi6
        obtain ⟨v7, hrun7, hm7, hg7, hb7⟩ := put_bundle (W1 := W1) (Wx := ((((w2.alloc (Obj.map #[] 0)).alloc (Obj.cells #[.int .i64 (l : Int), .slice A rows.length cc] 24)).alloc (Obj.cells #[.int .i64 (l : Int), .slice A rows.length cc] 24)).alloc (Obj.cells #[.int .i64 F] 3)).drew) (C := B + 1) (M := (w2.heap.size)) (F := F) (SeenV.alloc (SeenV.alloc (SeenV.alloc (SeenV.made_ (by simp)) _) _) _) hF64 ((((((hB2.mono (Nat.le_of_eq hsz.symm)).alloc (by first | omega | (simp; omega)) _).alloc (by first | omega | (simp; omega)) _).alloc (by first | omega | (simp; omega)) _).alloc (by first | omega | (simp; omega)) _)).drew (by omega)
        have hi7 : Ints v7 (B + 1) (.slice (some ⟨(w2.heap.size + 1 + 1 + 1), 0, none⟩) 1 1) [(F : Int)] := World.ownsRow.kept (w := ((((w2.alloc (Obj.map #[] 0)).alloc (Obj.cells #[.int .i64 (l : Int), .slice A rows.length cc] 24)).alloc (Obj.cells #[.int .i64 (l : Int), .slice A rows.length cc] 24)).alloc (Obj.cells #[.int .i64 F] 3)).drew) (Ints.one_ (by simp) (by omega) _) hg7 (.inr (by simp [Value.ownBlock] <;> omega))
        have a7 := (hb7.cell (p := ⟨B, 0, none⟩) (Nat.lt_succ_self B)).trans k0
        have c7 := (hb7.cell (p := ⟨B, 1, none⟩) (Nat.lt_succ_self B)).trans k1
        replace hm7 := hide hm7
        replace hb7 := hide hb7
        replace hi7 := hide hi7
        obtain ⟨v8, hrun8, hm8, hg8, hb8⟩ := put_bundle (W1 := W1) (Wx := (((w2.alloc (Obj.cells #[.int .i64 (l : Int), .slice A rows.length cc] 24)).alloc (Obj.map #[] 0)).alloc (Obj.cells #[.int .i64 (l : Int), .slice A rows.length cc] 24)).drew) (C := B + 1) (M := (w2.heap.size + 1)) (F := F) (SeenV.alloc (SeenV.made_ (by simp)) _) hF64 (((((hB2.mono (Nat.le_of_eq hsz.symm)).alloc (by first | omega | (simp; omega)) _).alloc (by first | omega | (simp; omega)) _).alloc (by first | omega | (simp; omega)) _)).drew (by omega)
        have a8 := (hb8.cell (p := ⟨B, 0, none⟩) (Nat.lt_succ_self B)).trans k0
        have c8 := (hb8.cell (p := ⟨B, 1, none⟩) (Nat.lt_succ_self B)).trans k1
        replace hm8 := hide hm8
        replace hb8 := hide hb8
        obtain ⟨v9, hrun9, hm9, hg9, hb9⟩ := put_bundle (W1 := W1) (Wx := (((w2.alloc (Obj.cells #[.int .i64 (l : Int), .slice A rows.length cc] 24)).alloc (Obj.cells #[.int .i64 (l : Int), .slice A rows.length cc] 24)).alloc (Obj.map #[] 0)).drew) (C := B + 1) (M := (w2.heap.size + 1 + 1)) (F := F) (SeenV.made_ (by simp)) hF64 (((((hB2.mono (Nat.le_of_eq hsz.symm)).alloc (by first | omega | (simp; omega)) _).alloc (by first | omega | (simp; omega)) _).alloc (by first | omega | (simp; omega)) _)).drew (by omega)
        have a9 := (hb9.cell (p := ⟨B, 0, none⟩) (Nat.lt_succ_self B)).trans k0
        have c9 := (hb9.cell (p := ⟨B, 1, none⟩) (Nat.lt_succ_self B)).trans k1
        replace hm9 := hide hm9
        replace hb9 := hide hb9
        obtain ⟨v10, hrun10, hm10, hg10, hb10⟩ := put_bundle (W1 := W1) (Wx := (((w2.alloc (Obj.map #[] 0)).alloc (Obj.cells #[.int .i64 (l : Int), .slice A rows.length cc] 24)).alloc (Obj.cells #[.int .i64 (l : Int), .slice A rows.length cc] 24)).drew) (C := B + 1) (M := (w2.heap.size)) (F := F) (SeenV.alloc (SeenV.alloc (SeenV.made_ (by simp)) _) _) hF64 (((((hB2.mono (Nat.le_of_eq hsz.symm)).alloc (by first | omega | (simp; omega)) _).alloc (by first | omega | (simp; omega)) _).alloc (by first | omega | (simp; omega)) _)).drew (by omega)
        have a10 := (hb10.cell (p := ⟨B, 0, none⟩) (Nat.lt_succ_self B)).trans k0
        have c10 := (hb10.cell (p := ⟨B, 1, none⟩) (Nat.lt_succ_self B)).trans k1
        replace hm10 := hide hm10
        replace hb10 := hide hb10
        clear hg0 hg1 hg2 hg3 hg4 hg5 hg6 hg7 hg8 hg9 hg10
        go_region_held3 (fun W => W.cell? ⟨B, 0, none⟩ = some (.int .i64 l) ∧ W.cell? ⟨B, 1, none⟩ = some (.slice A rows.length cc))
          (refine ⟨?_, ?_⟩ <;> (repeat (first | exact m0 | exact m1 | exact a0 | exact c0 | exact a1 | exact c1 | exact a2 | exact c2 | exact a3 | exact c3 | exact a4 | exact c4 | exact a5 | exact c5 | exact a6 | exact c6 | exact a7 | exact c7 | exact a8 | exact c8 | exact a9 | exact c9 | exact a10 | exact c10 | refine cell_up ?_ _)))
          (first
          | (go_at_call 37; refine (HAX.out _).mono ?_; rintro e w3 ⟨rfl, rfl⟩))
        all_goals (
          go_wp2_with fail
          go_meet
          case rel =>
            refine ⟨_, _, rfl, rfl, ?_, ?_, ?_, ?_, ?_⟩
            · first | omega | (have q0 := hb0.out.size; omega) | (have q1 := hb1.out.size; omega) | (have q2 := hb2.out.size; omega) | (have q3 := hb3.out.size; omega) | (have q4 := hb4.out.size; omega) | (have q5 := hb5.out.size; omega) | (have q6 := hb6.out.size; omega) | (have q7 := hb7.out.size; omega) | (have q8 := hb8.out.size; omega) | (have q9 := hb9.out.size; omega) | (have q10 := hb10.out.size; omega)
            · omega
            · first | exact hi0.out | exact hi1.out | exact hi2.out | exact hi3.out | exact hi4.out | exact hi5.out | exact hi6.out | exact hi7.out | exact Ints.one_ rfl (by have := hb8.out.size; omega) _ | exact Ints.one_ rfl (by have := hb9.out.size; omega) _ | exact Ints.one_ rfl (by have := hb10.out.size; omega) _
            · first | exact hm0.out | exact hm1.out | exact hm2.out | exact hm3.out | exact hm4.out | exact hm5.out | exact hm6.out | exact hm7.out | exact hm8.out | exact hm9.out | exact hm10.out | exact SeenV.alloc hm8.out _ | exact SeenV.alloc hm9.out _ | exact SeenV.alloc hm10.out _
            · first | exact hb0.out | exact hb1.out | exact hb2.out | exact hb3.out | exact hb4.out | exact hb5.out | exact hb6.out | exact hb7.out | exact hb8.out | exact hb9.out | exact hb10.out | exact hb8.out.alloc (by have := hb8.out.size; omega) _ | exact hb9.out.alloc (by have := hb9.out.size; omega) _ | exact hb10.out.alloc (by have := hb10.out.size; omega) _)
      case rest =>
        obtain ⟨X, M, rfl, rfl, hX, hM0, hI, hM, hB⟩ := hcut
        clear hAcc m0 m1 hB2
        have hs1 := hB.size
        have hIt0 : (wc.iter s 0).heap[wc.heap.size]? = some (.stringIter s 0) := World.iter_heap wc s 0
        have hBi : Below (B + 1) W1 (wc.iter s 0) := hB.alloc (by omega) _
        have hIi : Ints (wc.iter s 0) (B + 1) (.slice (some ⟨X, 0, none⟩) 1 1) [(F : Int)] := hI.alloc (.stringIter s 0)
        have hMi : SeenV (wc.iter s 0) M [F] := hM.alloc (.stringIter s 0)
        obtain ⟨It, hIt⟩ : ∃ It, wc.heap.size = It := ⟨_, rfl⟩
        rw [hIt] at hIt0
        have hItB : B + 1 ≤ It := by omega
        have hItM : It ≠ M := by have := hM.lt; omega
        go_wp2
        generalize wc.iter s 0 = W3 at hIt0 hBi hIi hMi ⊢
        clear hs1 hI hM hB hIt
        have HIi := hide hIi
        have HMi := hide hMi
        have HBi := hide hBi
        clear hIi hMi hBi
        go_loopg [7, 9] s.size (fun gk nv ov wr => ∃ k : Nat, gk = s.size - k ∧ k ≤ s.size ∧ wr.heap[It]? = some (.stringIter s k) ∧ OutV wr (B + 1) ov ((lays rows l k).map ints) ∧ Ints wr (B + 1) nv (ints (layS rows l k).1) ∧ SeenV wr M (layS rows l k).2 ∧ Below (B + 1) W1 wr)
        case atStart => exact ⟨0, rfl, Nat.zero_le _, hIt0, OutV.nil_ _ _, by rw [HL0.out]; exact HIi.out, by rw [HL0.out]; exact HMi.out, HBi.out⟩
        case round =>
          obtain ⟨k, hgk, hk, hit, hO, hI, hM, hB⟩ := hrel
          clear HIi HMi HBi hIt0
          by_cases hks : k < s.size
          · have hasc : (s[k]'hks).toNat < 128 := dig_ascii (HOK.out _ (mem_bytes s k hks)).1
            have hnx := fun ty => Lib.run_next_ascii_at (P := Tryd.prog) wr It s k ty hit hks hasc
            have hkc := KeepC.iter hit (k + 1)
            have hit5 := Lib.iterAt_heap wr It s k (k + 1) hit
            have hO5 := hO.keepC hkc
            have hI5 := hI.keepC hkc
            have hM5 := hM.move (w' := wr.iterAt It s (k + 1)) (Lib.iterAt_other wr It M s (k + 1) (fun e => hItM e.symm))
            have hB5 := Lib.below_iterAt hB hItB s (k + 1)
            have hDif := (layS_dif HA.out k)
            obtain ⟨now, seen, hns⟩ : ∃ now seen, layS rows l k = (now, seen) := ⟨_, _, rfl⟩
            have HN1 := hide (layS_next hns)
            have HN0 := hide (lays_succ rows l k)
            rw [hns] at HN0 hI5 hM5 hDif
            have hlk : ((lays rows l k).map ints).length ≤ 64 := by rw [List.length_map, lays_len]; omega
            have HLK := hide hlk
            obtain ⟨ls, hls⟩ : ∃ ls, (lays rows l k).map ints = ls := ⟨_, rfl⟩
            rw [hls] at hO5 hlk
            have hdl : now.length ≤ 64 := hDif.2.2
            have HDF := hide hDif
            clear hit hO hI hM hB hasc hkc hDif hns HLK
            generalize wr.iterAt It s (k + 1) = W5 at hnx hit5 hO5 hI5 hM5 hB5
            have hB5s := hB5.size
            obtain ⟨a1, c1, hsh⟩ := hI5.shape
            rw [ints_len] at hsh
            subst hsh
            obtain ⟨a2, c2, rfl⟩ := hO5.shape
            obtain ⟨vs5, hrow5, _⟩ := id hO5
            have H5 := hide (And.intro hit5 (And.intro hO5 (And.intro hI5 (And.intro hM5 (And.intro hB5 hrow5)))))
            clear hit5 hM5 hB5 hrow5
            go_wp2_with (at_builtin; refine wpList_app_out rfl (.tmp 35) (.tmp 37) rfl (B + 1) _ ls rfl (hO5.alloc _) _ (ints now) (hI5.alloc _) W5.heap.size rfl (heap_alloc_new W5 _) (by omega) (by simp; omega) ?_; intro v6 w6 hO6 hg6)
            replace hg6 : (W5.alloc (Obj.cells #[.slice a1 now.length c1] 27)).grownBy w6 (Value.ownBlock (.slice a2 ls.length c2)) := hg6
            obtain ⟨hit5, _, _, hM5, hB5, hrow5⟩ := H5.out
            clear H5
            have hcel5 : ∀ c t, (W5.alloc (Obj.cells #[.slice a1 now.length c1] 27)).heap[It]? ≠ some (Obj.cells c t (0, 0)) := fun c t e => by
              rw [heap_alloc_old W5 _ (Array.getElem?_eq_some_iff.1 hit5).1, hit5] at e
              cases e
            have hit6 : w6.heap[It]? = some (.stringIter s (k + 1)) := by
              rw [hg6.block It (by simp; have := (Array.getElem?_eq_some_iff.1 hit5).1; omega) (out_ne_obj (hO5.alloc _) hcel5), heap_alloc_old W5 _ (Array.getElem?_eq_some_iff.1 hit5).1]
              exact hit5
            have hrow5a : (W5.alloc (Obj.cells #[.slice a1 now.length c1] 27)).ownsRow (B + 1) 27 1 (.slice a2 ls.length c2) ls.length vs5 := World.ownsRow.alloc hrow5 _
            have hI5a : Ints (W5.alloc (Obj.cells #[.slice a1 now.length c1] 27)) (B + 1) (.slice a1 now.length c1) (ints now) := hI5.alloc _
            have hI6 : Ints w6 (B + 1) (.slice a1 now.length c1) (ints now) := World.ownsRow.kept hI5a hg6 (intRow_out hI5a hrow5a)
            have hM6 : SeenV w6 M seen := (hM5.alloc _).kept hg6 (row_ne_map hrow5a (hM5.alloc _))
            have hB6 : Below (B + 1) W1 w6 := (hB5.alloc (by omega) _).grown hg6 (by simp; omega) (fun j e => (World.ownsRow.lt hrow5a j e).1)
            have hs6 := hB6.size
            clear hit5 hM5 hB5 hrow5 hrow5a hI5a hg6 hcel5 hO5 hI5
            obtain ⟨N, hN⟩ : ∃ N, w6.heap.size = N := ⟨_, rfl⟩
            have hMk : MakI w6 It N (k + 1) s (ints (nxtK rows l now seen 0)) (w6.alloc (Obj.cells #[.slice none 0 0] 27)) :=
              ⟨⟨_, by rw [← hN]; exact heap_alloc_new w6 _, Ints.nil_ _ _⟩, KeepC.below ((Below.refl _ w6).alloc (Nat.le_refl _) _), by rw [heap_alloc_old w6 _ (Array.getElem?_eq_some_iff.1 hit6).1]; exact hit6⟩
            have hM7 : SeenV (w6.alloc (Obj.cells #[.slice none 0 0] 27)) M (seen ++ nxtK rows l now seen 0) := by rw [show seen ++ nxtK rows l now seen 0 = seen by simp [nxtK]]; exact hM6.alloc _
            have hB7 : Below (B + 1) W1 (w6.alloc (Obj.cells #[.slice none 0 0] 27)) := hB6.alloc (by omega) _
            have hMN : M < N := by have := hM6.lt; omega
            have hItN : It < N := by have := (Array.getElem?_eq_some_iff.1 hit6).1; omega
            have HI6 := hide hI6
            have HO6 := hide hO6
            have hil := ints_len now
            have HIT := hide (And.intro hit6 hM6)
            clear hI6 hit6 hO6 hM6 hB6
            rw [hN]
            replace hN := hide hN
            replace hil := hide hil
            go_loopg [41] now.length (fun gi iv wr => ∃ i : Nat, gi = now.length - i ∧ iv = .int .i64 i ∧ i ≤ now.length ∧ MakI w6 It N (k + 1) s (ints (nxtK rows l now seen i)) wr ∧ SeenV wr M (seen ++ nxtK rows l now seen i) ∧ Below (B + 1) W1 wr)
            case atStart => exact ⟨0, rfl, rfl, Nat.zero_le _, hMk, hM7, hB7⟩
            case round =>
              obtain ⟨i, hgi, rfl, hi, hMk, hM, hB⟩ := hrel
              clear hM7 hB7
              by_cases hin : i < now.length
              · obtain ⟨g, cap, e0, hg1, hg2⟩ := HI6.out.form (by rw [hil.out]; omega)
                rw [hil.out] at e0
                cases e0
                have hx2 : now.getD i 0 < 2 ^ rows.length := by
                  rw [List.getD_eq_getElem?_getD, List.getElem?_eq_getElem hin]
                  exact HDF.out.2.1 _ (List.getElem_mem hin)
                have hce := ((HI6.out.keepC hMk.2.1).cell (k := i) (by rw [hil.out]; exact hin))
                rw [show (ints now)[i]'(by rw [hil.out]; exact hin) = ((now.getD i 0 : Nat) : Int) by rw [List.getD_eq_getElem?_getD, List.getElem?_eq_getElem hin]; simp [ints]] at hce
                have HNS := hide (nxtK_succ rows l now seen i)
                obtain ⟨x, hx⟩ : ∃ x, now.getD i 0 = x := ⟨_, rfl⟩
                rw [hx] at hx2 hce HNS
                have hzl := nxtK_len HA.out HDF.out.1 (now := now) i
                have hbx7 : BoxA wr B l A rows.length cc := (hB.block B (Nat.lt_succ_self B)).trans hbx
                have m0 := hbx7.c0
                have m1 := hbx7.c1
                have hsB := hB.size
                obtain ⟨z, hz⟩ : ∃ z, nxtK rows l now seen i = z := ⟨_, rfl⟩
                rw [hz] at hMk hM HNS hzl
                have HFR := hide (zfreshL_any rows l x A cc M (B + 1) N (seen ++ z) (fun W lst => MakI w6 It N (k + 1) s (ints (z ++ snd lst)) W) wr HA.out hx2
                  (fun W hW => ⟨HR.out.below ((hB.trans hW).mono (Nat.le_of_eq hsz)), HT.out.below ((hB.trans hW).mono (Nat.le_of_eq hsz))⟩)
                  hM0 (by omega) hM (by rw [show z ++ snd [] = z by simp [snd]]; exact hMk) (by omega)
                  (fun W W' lst h hb => h.belowL hb) (fun W W' lst T h hT hg => hT.map_ h hg)
                  (by
                    rintro W lst c y ⟨⟨v, a, b⟩, d, e⟩ hcL hlc hy
                    have hl3 := HA.out.l3
                    have hzz : (ints (z ++ snd lst)).length ≤ 100000 := by
                      rw [ints_len, List.length_append]
                      have h2 : (snd lst).length = lst.length := by simp [snd]
                      rw [List.length_append] at hzl
                      omega
                    refine (zLayersf_any c y N v _ W a b hzz).mono ?_
                    rintro e2 W' ⟨rfl, ⟨v', a', b'⟩, hka, hb'⟩
                    refine ⟨rfl, ⟨⟨v', a', ?_⟩, fun j q t hj => (hb'.block j (by have := (Array.getElem?_eq_some_iff.1 hj).1; have := hN.out; omega)).trans (d j q t hj), (hb'.block It hItN).trans e⟩, fun T hT => hT.below hb' hMN, hka, hb'.mono (by omega)⟩
                    rw [show z ++ snd (lst ++ [(c, y)]) = (z ++ snd lst) ++ [y] by simp [snd], ints_append]
                    exact b'))
                clear hx hz hMk hM
                go_wp2_with (go_at_call 38; refine HFR.out.mono ?_; rintro e W6 ⟨rfl, hMk6, hM6', hB6'⟩)
                go_roundg (now.length - (i + 1))
                case rel => exact ⟨i + 1, rfl, by go_num, hin, by rw [HNS.out]; exact hMk6, by rw [HNS.out, ← List.append_assoc]; exact hM6', hB.trans hB6'⟩
                case measure => omega
              · obtain rfl : i = now.length := by omega
                have hzl := nxtK_len HA.out HDF.out.1 (now := now) now.length
                obtain ⟨z, hz⟩ : ∃ z, nxtK rows l now seen now.length = z := ⟨_, rfl⟩
                rw [hz] at hMk hM hzl HN1
                obtain ⟨⟨v, hv, hIv⟩, hKc, hitv⟩ := hMk
                have cN := hv.cell
                have hzi : (ints z).length ≤ 1000000 := by rw [ints_len]; rw [List.length_append] at hzl; omega
                have HSO := hide (sortI_any (N + 1) v (ints z) wr hIv hzi)
                have hvi : VarI wr N v := hv
                have hvN : v.ownBlock ≠ some N := row_ne_var hIv hv
                have hsv := hIv.shape
                obtain ⟨a3, c3, rfl⟩ := hsv
                have HV := hide (And.intro hvi (And.intro hvN (And.intro hKc (And.intro hitv (And.intro hM (And.intro hB hIv))))))
                clear hv hIv hKc hitv hM hB hz hvi hvN
                go_wp2_with (go_at_call 40; refine HSO.out.mono ?_; rintro e W8 ⟨rfl, hI8, hg8⟩; have cN8 := (show VarI W8 N (.slice a3 (ints z).length c3) from (hg8.block N HV.out.1.lt (fun e => HV.out.2.1 e.symm)).trans HV.out.1).cell)
                obtain ⟨hvi, hvN, hKc, hitv, hM, hB, hIv⟩ := HV.out
                have hge : ∀ j, some j = (Value.slice a3 (ints z).length c3).ownBlock → N + 1 ≤ j := fun j e => (World.ownsRow.lt hIv j e.symm).1
                have hKc8 : KeepC w6 W8 := fun j q t hj => by
                  have hjl : j < N := by have := (Array.getElem?_eq_some_iff.1 hj).1; have := hN.out; omega
                  have h1 := hKc j q t hj
                  exact (hg8.block j (Array.getElem?_eq_some_iff.1 h1).1 (fun e => by have := hge j e; omega)).trans h1
                go_roundg (s.size - (k + 1))
                case measure => omega
                case rel =>
                  refine ⟨k + 1, rfl, hks, (hg8.block It (Array.getElem?_eq_some_iff.1 hitv).1 (fun e => by have := hge It e; omega)).trans hitv, ?_, ?_, ?_, hB.grown hg8 (by have := hB.size; omega) (fun j e => by have := hge j e.symm; omega)⟩
                  · rw [HN0.out, List.map_append, hls]
                    exact HO6.out.keepC hKc8
                  · rw [HN1.out]
                    show Ints W8 (B + 1) _ (ints (srtN z))
                    rw [← srt_ints]
                    exact hI8.mono (by omega)
                  · rw [HN1.out]
                    exact hM.kept hg8 (row_ne_map hIv hM)
          · obtain rfl : k = s.size := by omega
            have hnx := fun ty => Lib.run_next_end_at (P := Tryd.prog) wr It s s.size ty hit hks
            go_wp2
            go_ret2
            exact ⟨_, rfl, OutV.mono hO (by omega), hBB ▸ hB0.trans (hB.mono (by omega))⟩
  · obtain ⟨e1, e2⟩ := lay_bad h0
    rw [e1, e2]
    rw [shrV_bad h0] at HS
    clear hR hT hg h0 e1 e2
    go_enter Tryd.func15, Tryd.ntmps15
    go_wp2_with fail
    generalize w.alloc (Obj.cells #[.int .i64 L, .slice A rows.length cc] 24) = W1 at hB0 HR HT hbx k0 k1 hsz ⊢
    go_wp2_with (go_at_call 22; refine (HS.out W1 HR.out HT.out).mono ?_; rintro e w2 ⟨rfl, hB2⟩)
    go_ret2
    exact ⟨_, rfl, OutV.nil_ _ _, hBB ▸ hB0.trans (hB2.mono (by omega))⟩
end Go.Proofs.YtmokccidpnpimaaDoor
