import Derived.Test.YtpppbkdbpbpinaaGreatDoorG18
import Derived.Lib.OthersKept
import Derived.Deep.Cut
import Derived.Deep.RegionLaw
import Derived.Test.YtpppbkdbpbpinaaGreatDoorG16
import Derived.Deep.RegionHeld3
import Derived.Test.YtpppbkdbpbpinaaGreatDoorG0
set_option linter.unusedSimpArgs false
set_option linter.unusedVariables false
/- reset.Layers: its contract. -/
set_option linter.unusedVariables false
namespace Go.Proofs.YtpppbkdbpbpinaaGreatDoor
open Go.RowKit Go.Maps
/-- the layers of an automaton, and what is wrong -/
def layO (L : Int) (rows : List (List Int)) : List (List Int) := if chkA L rows = 0 ∧ (fst44 rows L).2 = true then (lays rows L.toNat (fst44 rows L).1.size).map ints else []
def layE (L : Int) (rows : List (List Int)) : Int := if chkA L rows = 0 then (if (fst44 rows L).2 = true then 0 else 20) else 1
theorem lay_ok {L : Nat} {rows : List (List Int)} (h : chkA L rows = 0) {s : ByteArray} (hr : first rows L (fullS rows) = (s, true)) : layO L rows = (lays rows L s.size).map ints ∧ layE L rows = 0 := by
  unfold layO layE fst44
  rw [Int.toNat_natCast, hr]
  simp [h]
theorem lay_no {L : Nat} {rows : List (List Int)} (h : chkA L rows = 0) {s : ByteArray} (hr : first rows L (fullS rows) = (s, false)) : layO L rows = [] ∧ layE L rows = 20 := by
  unfold layO layE fst44
  rw [Int.toNat_natCast, hr]
  simp [h]
theorem lay_bad {L : Int} {rows : List (List Int)} (h : chkA L rows ≠ 0) : layO L rows = [] ∧ layE L rows = 1 := by
  unfold layO layE
  simp [h]
theorem cell_up {w : World} {p : Addr} {v : Value} (h : w.cell? p = some v) (o : Obj) : (w.alloc o).cell? p = some v := (World.cell?_alloc_lt _ _ _ (World.block_lt_of_cell? _ _ h)).trans h
set_option maxRecDepth 100000 in
theorem zall_exact (rows : List (List Int)) (L : Int) (A : Option Addr) (cc : Nat) (w : World) (hn : rows.length < 17) :
    Calls Tryz.prog 51 #[.agg #[.int .i64 L, .slice A rows.length cc]] w fun e w' => e = .returned (.int .i64 (2 ^ rows.length - 1 : Nat)) ∧ w' = w.alloc (Obj.cells #[.int .i64 L, .slice A rows.length cc] 24) := by
  have h1 := hide (allI _ hn)
  obtain ⟨h2, h3⟩ := allR _ hn
  go_enter Tryz.func51, Tryz.ntmps51
  go_wp2
  go_ret
  exact ⟨by rw [← h1.out]; rfl, rfl⟩
theorem put_bundle {W1 Wx : World} {C M F : Nat} (hM : SeenV Wx M []) (hF : F < 64) (hB : Below C W1 Wx) (hC : C ≤ M) :
    ∃ w6, (Instr.mapUpdate 107 (.map (some M)) (.int .i64 F) (.bool true)).run Tryz.prog Wx = .ok () w6 ∧ SeenV w6 M [F] ∧ Wx.grownBy w6 (some M) ∧ Below C W1 w6 := by
  obtain ⟨w6, hrun, hm6, hg6⟩ := hM.store (by simp) F (by omega)
  have := hM.lt
  exact ⟨w6, hrun, hm6, hg6, hB.grown hg6 (by omega) (fun j e => by cases e; omega)⟩
theorem SeenV.move {w w' : World} {M : Nat} {S : List Nat} (h : SeenV w M S) (hh : w'.heap[M]? = w.heap[M]?) : SeenV w' M S := by
  obtain ⟨D, ⟨es, clock, h0, h1⟩, h2⟩ := h
  exact ⟨D, ⟨es, clock, hh.trans h0, h1⟩, h2⟩
theorem KeepC.iter {w : World} {It : Nat} {s : ByteArray} {p : Nat} (h : w.heap[It]? = some (.stringIter s p)) (q : Nat) : KeepC w (w.iterAt It s q) := fun j c t e => by
  rw [Lib.iterAt_other w It j s q (by rintro rfl; rw [h] at e; cases e)]
  exact e
theorem layS_next {rows : List (List Int)} {L k : Nat} {now seen : List Nat} (h : layS rows L k = (now, seen)) : layS rows L (k + 1) = (srtN (nxtK rows L now seen now.length), seen ++ nxtK rows L now seen now.length) := by
  rw [show layS rows L (k + 1) = (srtN (nxtK rows L (layS rows L k).1 (layS rows L k).2 (layS rows L k).1.length), (layS rows L k).2 ++ nxtK rows L (layS rows L k).1 (layS rows L k).2 (layS rows L k).1.length) from rfl, h]
theorem nxtK_succ (rows : List (List Int)) (L : Nat) (now seen : List Nat) (i : Nat) : nxtK rows L now seen (i + 1) = nxtK rows L now seen i ++ snd (frK rows (now.getD i 0) (seen ++ nxtK rows L now seen i) L) := rfl
theorem nxtK_len {rows : List (List Int)} {L : Nat} (hA : Aut rows L) {now seen : List Nat} (h : Dif rows.length seen) (i : Nat) : (seen ++ nxtK rows L now seen i).length ≤ 64 := (h.nxt hA now i).len hA
/-- what a round of Layers keeps of the layer it makes -/
def MakI (W0 : World) (It N k : Nat) (s : ByteArray) (zs : List Int) (W : World) : Prop := (∃ v, VarI W N v ∧ Ints W (N + 1) v zs) ∧ KeepC W0 W ∧ W.heap[It]? = some (.stringIter s k)
theorem MakI.belowL {W0 W W' : World} {It N k : Nat} {s : ByteArray} {zs : List Int} (h : MakI W0 It N k s zs W) (hb : Below W.heap.size W W') : MakI W0 It N k s zs W' := by
  obtain ⟨⟨v, a, b⟩, c, d⟩ := h
  exact ⟨⟨v, (hb.block N a.lt).trans a, b.below hb (Nat.le_refl _)⟩, c.trans (KeepC.below hb), (hb.block It (Array.getElem?_eq_some_iff.1 d).1).trans d⟩
theorem MakI.map_ {W0 W W' : World} {It N k M : Nat} {s : ByteArray} {zs : List Int} {T : List Nat} (h : MakI W0 It N k s zs W) (hM : SeenV W M T) (hg : W.grownBy W' (some M)) : MakI W0 It N k s zs W' := by
  obtain ⟨⟨v, a, b⟩, c, d⟩ := h
  have hne : some It ≠ some M := by
    intro e
    cases e
    obtain ⟨es, clock, h0⟩ := hM.obj
    rw [h0] at d
    cases d
  exact ⟨⟨v, (KeepC.map_ hM hg) _ _ _ a, b.keepC (KeepC.map_ hM hg)⟩, c.trans (KeepC.map_ hM hg), (hg.block It (Array.getElem?_eq_some_iff.1 d).1 hne).trans d⟩
theorem OutV.mono {w : World} {B B' : Nat} {v : Value} {ls : List (List Int)} (h : OutV w B v ls) (hb : B' ≤ B) : OutV w B' v ls := by
  obtain ⟨vs, ⟨h1, h2⟩, h3⟩ := h
  refine ⟨vs, ⟨h1, ?_⟩, fun j hj => ?_⟩
  · rcases h2 with hn | ⟨g, cap, cur, rfl, hbg, hg, rest⟩
    · exact .inl hn
    · exact .inr ⟨g, cap, cur, rfl, by omega, hg, rest⟩
  · obtain ⟨u, hu, hI⟩ := h3 j hj
    exact ⟨u, hu, hI.mono hb⟩
set_option maxRecDepth 100000 in
set_option maxHeartbeats 4000000 in
theorem zLayers_any (L : Int) (rows : List (List Int)) (A : Option Addr) (cc : Nat) (w : World) (hg : Fit L rows) (hR : RowD w A rows) (hT : TabZ w) (hb : rows.length ≤ 9223372036854775807) :
    Calls Tryz.prog 24 #[.agg #[.int .i64 L, .slice A rows.length cc]] w fun e w' => ∃ v, e = .returned (.tuple #[v, .int .i64 (layE L rows)]) ∧ OutV w' w.heap.size v (layO L rows) ∧ Below w.heap.size w w' := by
  have hB0 : Below w.heap.size w (w.alloc (Obj.cells #[.int .i64 L, .slice A rows.length cc] 24)) := (Below.refl _ w).alloc (Nat.le_refl _) _
  have HR := hide (hR.below hB0)
  have HT := hide (hT.below hB0)
  obtain ⟨B, hBB⟩ : ∃ B, w.heap.size = B := ⟨_, rfl⟩
  have hbx : BoxA (w.alloc (Obj.cells #[.int .i64 L, .slice A rows.length cc] 24)) B L A rows.length cc := by rw [← hBB]; exact heap_alloc_new w _
  have k0 := hbx.c0
  have k1 := hbx.c1
  have hsz : (w.alloc (Obj.cells #[.int .i64 L, .slice A rows.length cc] 24)).heap.size = B + 1 := by rw [← hBB]; simp
  have HS := hide (fun W (h : RowD W A rows) (hT : TabZ W) => zShortest_any L rows A cc W hg h hT hb)
  by_cases h0 : chkA L rows = 0
  · obtain ⟨l, rfl, hA⟩ := aut_fit hg h0
    rw [shrV_ok h0] at HS
    have hn := hA.n6
    obtain ⟨s, bo, hR0⟩ : ∃ s bo, first rows l (fullS rows) = (s, bo) := ⟨_, _, rfl⟩
    have HFS := hide (first_size hA (full_lt rows.length))
    have HFF := hide (first_from (rows := rows) (L := l) (S := fullS rows) (by have := hA.l3; omega))
    unfold fullS at hR0 HS HFF
    rw [hR0] at HS HFS HFF
    cases bo with
    | false =>
      obtain ⟨e1, e2⟩ := lay_no h0 hR0
      rw [e1, e2]
      clear hR hT hg h0 hA hR0 e1 e2 HFS HFF
      go_enter Tryz.func24, Tryz.ntmps24
      go_wp2_with fail
      generalize w.alloc (Obj.cells #[.int .i64 (l : Int), .slice A rows.length cc] 24) = W1 at hB0 HR HT hbx k0 k1 hsz ⊢
      go_wp2_with (go_at_call 23; refine (HS.out W1 HR.out HT.out).mono ?_; rintro e w2 ⟨rfl, hB2⟩)
      go_ret2
      exact ⟨_, rfl, OutV.nil_ _ _, hBB ▸ hB0.trans (hB2.mono (by omega))⟩
    | true =>
      obtain ⟨e1, e2⟩ := lay_ok h0 hR0
      rw [e1, e2]
      have HA := hide hA
      have hs64 : s.size ≤ 64 := HFS.out
      have HOK := hide (HFF.out rfl).1
      have HAX := hide (fun W => zall_exact rows l A cc W (by omega))
      obtain ⟨F, hFF⟩ : ∃ F, 2 ^ rows.length - 1 = F := ⟨_, rfl⟩
      have hF64 : F < 64 := by rw [← hFF]; exact Nat.lt_of_lt_of_le (full_lt _) hA.pow
      have HL0 := hide (show layS rows l 0 = ([F], [F]) by rw [← hFF]; rfl)
      rw [hFF] at HAX
      have hmm := @run_makeMap Tryz.prog
      clear hR hT hg h0 hA hR0 e1 e2 hFF HFS
      go_enter Tryz.func24, Tryz.ntmps24
      go_wp2_with fail
      generalize w.alloc (Obj.cells #[.int .i64 (l : Int), .slice A rows.length cc] 24) = W1 at hB0 HR HT hbx k0 k1 hsz ⊢
      have lB : B < W1.heap.size := by omega
      go_wp2_with (go_at_call 23; refine (HS.out W1 HR.out HT.out).mono ?_; rintro e w2 ⟨rfl, hB2⟩)
      have hAcc : Below W1.heap.size W1 w2.drew := hB2.drew
      have m0 := (hAcc.cell (p := ⟨B, 0, none⟩) lB).trans k0
      have m1 := (hAcc.cell (p := ⟨B, 1, none⟩) lB).trans k1
      go_cut [7, 8] from 24 (fun nv mv wc => ∃ X M : Nat, nv = .slice (some ⟨X, 0, none⟩) 1 1 ∧ mv = .map (some M) ∧ B + 1 ≤ X ∧ B + 1 ≤ M ∧ Ints wc (B + 1) (.slice (some ⟨X, 0, none⟩) 1 1) [(F : Int)] ∧ SeenV wc M [F] ∧ Below (B + 1) W1 wc)
      case first =>
        have hle := hB2.size
        obtain ⟨v0, hrun0, hm0, hg0, hb0⟩ := put_bundle (W1 := W1) (Wx := ((((w2.alloc (Obj.cells #[.int .i64 (l : Int), .slice A rows.length cc] 24)).alloc (Obj.cells #[.int .i64 F] 3)).alloc (Obj.map #[] 0)).alloc (Obj.cells #[.int .i64 (l : Int), .slice A rows.length cc] 24)).drew) (C := B + 1) (M := (w2.heap.size + 1 + 1)) (F := F) (SeenV.alloc (SeenV.made_ (by simp)) _) hF64 ((((((hB2.mono (Nat.le_of_eq hsz.symm)).alloc (by first | omega | (simp; omega)) _).alloc (by first | omega | (simp; omega)) _).alloc (by first | omega | (simp; omega)) _).alloc (by first | omega | (simp; omega)) _)).drew (by omega)
        have hi0 : Ints v0 (B + 1) (.slice (some ⟨(w2.heap.size + 1), 0, none⟩) 1 1) [(F : Int)] := World.ownsRow.kept (w := ((((w2.alloc (Obj.cells #[.int .i64 (l : Int), .slice A rows.length cc] 24)).alloc (Obj.cells #[.int .i64 F] 3)).alloc (Obj.map #[] 0)).alloc (Obj.cells #[.int .i64 (l : Int), .slice A rows.length cc] 24)).drew) (Ints.alloc (Ints.alloc (Ints.one_ (by simp) (by omega) _) _) _) hg0 (.inr (by simp [Value.ownBlock] <;> omega))
        have a0 := (hb0.cell (p := ⟨B, 0, none⟩) (Nat.lt_succ_self B)).trans k0
        have c0 := (hb0.cell (p := ⟨B, 1, none⟩) (Nat.lt_succ_self B)).trans k1
        replace hm0 := hide hm0
        replace hb0 := hide hb0
        replace hi0 := hide hi0
        obtain ⟨v1, hrun1, hm1, hg1, hb1⟩ := put_bundle (W1 := W1) (Wx := ((((w2.alloc (Obj.cells #[.int .i64 (l : Int), .slice A rows.length cc] 24)).alloc (Obj.cells #[.int .i64 F] 3)).alloc (Obj.cells #[.int .i64 (l : Int), .slice A rows.length cc] 24)).alloc (Obj.map #[] 0)).drew) (C := B + 1) (M := (w2.heap.size + 1 + 1 + 1)) (F := F) (SeenV.made_ (by simp)) hF64 ((((((hB2.mono (Nat.le_of_eq hsz.symm)).alloc (by first | omega | (simp; omega)) _).alloc (by first | omega | (simp; omega)) _).alloc (by first | omega | (simp; omega)) _).alloc (by first | omega | (simp; omega)) _)).drew (by omega)
        have hi1 : Ints v1 (B + 1) (.slice (some ⟨(w2.heap.size + 1), 0, none⟩) 1 1) [(F : Int)] := World.ownsRow.kept (w := ((((w2.alloc (Obj.cells #[.int .i64 (l : Int), .slice A rows.length cc] 24)).alloc (Obj.cells #[.int .i64 F] 3)).alloc (Obj.cells #[.int .i64 (l : Int), .slice A rows.length cc] 24)).alloc (Obj.map #[] 0)).drew) (Ints.alloc (Ints.alloc (Ints.one_ (by simp) (by omega) _) _) _) hg1 (.inr (by simp [Value.ownBlock] <;> omega))
        have a1 := (hb1.cell (p := ⟨B, 0, none⟩) (Nat.lt_succ_self B)).trans k0
        have c1 := (hb1.cell (p := ⟨B, 1, none⟩) (Nat.lt_succ_self B)).trans k1
        replace hm1 := hide hm1
        replace hb1 := hide hb1
        replace hi1 := hide hi1
        obtain ⟨v2, hrun2, hm2, hg2, hb2⟩ := put_bundle (W1 := W1) (Wx := ((((w2.alloc (Obj.cells #[.int .i64 (l : Int), .slice A rows.length cc] 24)).alloc (Obj.map #[] 0)).alloc (Obj.cells #[.int .i64 F] 3)).alloc (Obj.cells #[.int .i64 (l : Int), .slice A rows.length cc] 24)).drew) (C := B + 1) (M := (w2.heap.size + 1)) (F := F) (SeenV.alloc (SeenV.alloc (SeenV.made_ (by simp)) _) _) hF64 ((((((hB2.mono (Nat.le_of_eq hsz.symm)).alloc (by first | omega | (simp; omega)) _).alloc (by first | omega | (simp; omega)) _).alloc (by first | omega | (simp; omega)) _).alloc (by first | omega | (simp; omega)) _)).drew (by omega)
        have hi2 : Ints v2 (B + 1) (.slice (some ⟨(w2.heap.size + 1 + 1), 0, none⟩) 1 1) [(F : Int)] := World.ownsRow.kept (w := ((((w2.alloc (Obj.cells #[.int .i64 (l : Int), .slice A rows.length cc] 24)).alloc (Obj.map #[] 0)).alloc (Obj.cells #[.int .i64 F] 3)).alloc (Obj.cells #[.int .i64 (l : Int), .slice A rows.length cc] 24)).drew) (Ints.alloc (Ints.one_ (by simp) (by omega) _) _) hg2 (.inr (by simp [Value.ownBlock] <;> omega))
        have a2 := (hb2.cell (p := ⟨B, 0, none⟩) (Nat.lt_succ_self B)).trans k0
        have c2 := (hb2.cell (p := ⟨B, 1, none⟩) (Nat.lt_succ_self B)).trans k1
        replace hm2 := hide hm2
        replace hb2 := hide hb2
        replace hi2 := hide hi2
        obtain ⟨v3, hrun3, hm3, hg3, hb3⟩ := put_bundle (W1 := W1) (Wx := ((((w2.alloc (Obj.map #[] 0)).alloc (Obj.cells #[.int .i64 (l : Int), .slice A rows.length cc] 24)).alloc (Obj.cells #[.int .i64 F] 3)).alloc (Obj.cells #[.int .i64 (l : Int), .slice A rows.length cc] 24)).drew) (C := B + 1) (M := (w2.heap.size)) (F := F) (SeenV.alloc (SeenV.alloc (SeenV.alloc (SeenV.made_ (by simp)) _) _) _) hF64 ((((((hB2.mono (Nat.le_of_eq hsz.symm)).alloc (by first | omega | (simp; omega)) _).alloc (by first | omega | (simp; omega)) _).alloc (by first | omega | (simp; omega)) _).alloc (by first | omega | (simp; omega)) _)).drew (by omega)
        have hi3 : Ints v3 (B + 1) (.slice (some ⟨(w2.heap.size + 1 + 1), 0, none⟩) 1 1) [(F : Int)] := World.ownsRow.kept (w := ((((w2.alloc (Obj.map #[] 0)).alloc (Obj.cells #[.int .i64 (l : Int), .slice A rows.length cc] 24)).alloc (Obj.cells #[.int .i64 F] 3)).alloc (Obj.cells #[.int .i64 (l : Int), .slice A rows.length cc] 24)).drew) (Ints.alloc (Ints.one_ (by simp) (by omega) _) _) hg3 (.inr (by simp [Value.ownBlock] <;> omega))
        have a3 := (hb3.cell (p := ⟨B, 0, none⟩) (Nat.lt_succ_self B)).trans k0
        have c3 := (hb3.cell (p := ⟨B, 1, none⟩) (Nat.lt_succ_self B)).trans k1
        replace hm3 := hide hm3
        replace hb3 := hide hb3
        replace hi3 := hide hi3
        obtain ⟨v4, hrun4, hm4, hg4, hb4⟩ := put_bundle (W1 := W1) (Wx := ((((w2.alloc (Obj.cells #[.int .i64 (l : Int), .slice A rows.length cc] 24)).alloc (Obj.cells #[.int .i64 (l : Int), .slice A rows.length cc] 24)).alloc (Obj.cells #[.int .i64 F] 3)).alloc (Obj.map #[] 0)).drew) (C := B + 1) (M := (w2.heap.size + 1 + 1 + 1)) (F := F) (SeenV.made_ (by simp)) hF64 ((((((hB2.mono (Nat.le_of_eq hsz.symm)).alloc (by first | omega | (simp; omega)) _).alloc (by first | omega | (simp; omega)) _).alloc (by first | omega | (simp; omega)) _).alloc (by first | omega | (simp; omega)) _)).drew (by omega)
        have hi4 : Ints v4 (B + 1) (.slice (some ⟨(w2.heap.size + 1 + 1), 0, none⟩) 1 1) [(F : Int)] := World.ownsRow.kept (w := ((((w2.alloc (Obj.cells #[.int .i64 (l : Int), .slice A rows.length cc] 24)).alloc (Obj.cells #[.int .i64 (l : Int), .slice A rows.length cc] 24)).alloc (Obj.cells #[.int .i64 F] 3)).alloc (Obj.map #[] 0)).drew) (Ints.alloc (Ints.one_ (by simp) (by omega) _) _) hg4 (.inr (by simp [Value.ownBlock] <;> omega))
        have a4 := (hb4.cell (p := ⟨B, 0, none⟩) (Nat.lt_succ_self B)).trans k0
        have c4 := (hb4.cell (p := ⟨B, 1, none⟩) (Nat.lt_succ_self B)).trans k1
        replace hm4 := hide hm4
        replace hb4 := hide hb4
        replace hi4 := hide hi4
        obtain ⟨v5, hrun5, hm5, hg5, hb5⟩ := put_bundle (W1 := W1) (Wx := ((((w2.alloc (Obj.cells #[.int .i64 (l : Int), .slice A rows.length cc] 24)).alloc (Obj.cells #[.int .i64 (l : Int), .slice A rows.length cc] 24)).alloc (Obj.map #[] 0)).alloc (Obj.cells #[.int .i64 F] 3)).drew) (C := B + 1) (M := (w2.heap.size + 1 + 1)) (F := F) (SeenV.alloc (SeenV.made_ (by simp)) _) hF64 ((((((hB2.mono (Nat.le_of_eq hsz.symm)).alloc (by first | omega | (simp; omega)) _).alloc (by first | omega | (simp; omega)) _).alloc (by first | omega | (simp; omega)) _).alloc (by first | omega | (simp; omega)) _)).drew (by omega)
        have hi5 : Ints v5 (B + 1) (.slice (some ⟨(w2.heap.size + 1 + 1 + 1), 0, none⟩) 1 1) [(F : Int)] := World.ownsRow.kept (w := ((((w2.alloc (Obj.cells #[.int .i64 (l : Int), .slice A rows.length cc] 24)).alloc (Obj.cells #[.int .i64 (l : Int), .slice A rows.length cc] 24)).alloc (Obj.map #[] 0)).alloc (Obj.cells #[.int .i64 F] 3)).drew) (Ints.one_ (by simp) (by omega) _) hg5 (.inr (by simp [Value.ownBlock] <;> omega))
        have a5 := (hb5.cell (p := ⟨B, 0, none⟩) (Nat.lt_succ_self B)).trans k0
        have c5 := (hb5.cell (p := ⟨B, 1, none⟩) (Nat.lt_succ_self B)).trans k1
        replace hm5 := hide hm5
        replace hb5 := hide hb5
        replace hi5 := hide hi5
        obtain ⟨v6, hrun6, hm6, hg6, hb6⟩ := put_bundle (W1 := W1) (Wx := ((((w2.alloc (Obj.cells #[.int .i64 (l : Int), .slice A rows.length cc] 24)).alloc (Obj.map #[] 0)).alloc (Obj.cells #[.int .i64 (l : Int), .slice A rows.length cc] 24)).alloc (Obj.cells #[.int .i64 F] 3)).drew) (C := B + 1) (M := (w2.heap.size + 1)) (F := F) (SeenV.alloc (SeenV.alloc (SeenV.made_ (by simp)) _) _) hF64 ((((((hB2.mono (Nat.le_of_eq hsz.symm)).alloc (by first | omega | (simp; omega)) _).alloc (by first | omega | (simp; omega)) _).alloc (by first | omega | (simp; omega)) _).alloc (by first | omega | (simp; omega)) _)).drew (by omega)
        have hi6 : Ints v6 (B + 1) (.slice (some ⟨(w2.heap.size + 1 + 1 + 1), 0, none⟩) 1 1) [(F : Int)] := World.ownsRow.kept (w := ((((w2.alloc (Obj.cells #[.int .i64 (l : Int), .slice A rows.length cc] 24)).alloc (Obj.map #[] 0)).alloc (Obj.cells #[.int .i64 (l : Int), .slice A rows.length cc] 24)).alloc (Obj.cells #[.int .i64 F] 3)).drew) (Ints.one_ (by simp) (by omega) _) hg6 (.inr (by simp [Value.ownBlock] <;> omega))
        have a6 := (hb6.cell (p := ⟨B, 0, none⟩) (Nat.lt_succ_self B)).trans k0
        have c6 := (hb6.cell (p := ⟨B, 1, none⟩) (Nat.lt_succ_self B)).trans k1
        replace hm6 := hide hm6
        replace hb6 := hide hb6
        replace hi6 := hide hi6
        obtain ⟨v7, hrun7, hm7, hg7, hb7⟩ := put_bundle (W1 := W1) (Wx := ((((w2.alloc (Obj.map #[] 0)).alloc (Obj.cells #[.int .i64 (l : Int), .slice A rows.length cc] 24)).alloc (Obj.cells #[.int .i64 (l : Int), .slice A rows.length cc] 24)).alloc (Obj.cells #[.int .i64 F] 3)).drew) (C := B + 1) (M := (w2.heap.size)) (F := F) (SeenV.alloc (SeenV.alloc (SeenV.alloc (SeenV.made_ (by simp)) _) _) _) hF64 ((((((hB2.mono (Nat.le_of_eq hsz.symm)).alloc (by first | omega | (simp; omega)) _).alloc (by first | omega | (simp; omega)) _).alloc (by first | omega | (simp; omega)) _).alloc (by first | omega | (simp; omega)) _)).drew (by omega)
        have hi7 : Ints v7 (B + 1) (.slice (some ⟨(w2.heap.size + 1 + 1 + 1), 0, none⟩) 1 1) [(F : Int)] := World.ownsRow.kept (w := ((((w2.alloc (Obj.map #[] 0)).alloc (Obj.cells #[.int .i64 (l : Int), .slice A rows.length cc] 24)).alloc (Obj.cells #[.int .i64 (l : Int), .slice A rows.length cc] 24)).alloc (Obj.cells #[.int .i64 F] 3)).drew) (Ints.one_ (by simp) (by omega) _) hg7 (.inr (by simp [Value.ownBlock] <;> omega))
        have a7 := (hb7.cell (p := ⟨B, 0, none⟩) (Nat.lt_succ_self B)).trans k0
        have c7 := (hb7.cell (p := ⟨B, 1, none⟩) (Nat.lt_succ_self B)).trans k1
        replace hm7 := hide hm7
        replace hb7 := hide hb7
        replace hi7 := hide hi7
        obtain ⟨v8, hrun8, hm8, hg8, hb8⟩ := put_bundle (W1 := W1) (Wx := (((w2.alloc (Obj.cells #[.int .i64 (l : Int), .slice A rows.length cc] 24)).alloc (Obj.map #[] 0)).alloc (Obj.cells #[.int .i64 (l : Int), .slice A rows.length cc] 24)).drew) (C := B + 1) (M := (w2.heap.size + 1)) (F := F) (SeenV.alloc (SeenV.made_ (by simp)) _) hF64 (((((hB2.mono (Nat.le_of_eq hsz.symm)).alloc (by first | omega | (simp; omega)) _).alloc (by first | omega | (simp; omega)) _).alloc (by first | omega | (simp; omega)) _)).drew (by omega)
        have a8 := (hb8.cell (p := ⟨B, 0, none⟩) (Nat.lt_succ_self B)).trans k0
        have c8 := (hb8.cell (p := ⟨B, 1, none⟩) (Nat.lt_succ_self B)).trans k1
        replace hm8 := hide hm8
        replace hb8 := hide hb8
        obtain ⟨v9, hrun9, hm9, hg9, hb9⟩ := put_bundle (W1 := W1) (Wx := (((w2.alloc (Obj.cells #[.int .i64 (l : Int), .slice A rows.length cc] 24)).alloc (Obj.cells #[.int .i64 (l : Int), .slice A rows.length cc] 24)).alloc (Obj.map #[] 0)).drew) (C := B + 1) (M := (w2.heap.size + 1 + 1)) (F := F) (SeenV.made_ (by simp)) hF64 (((((hB2.mono (Nat.le_of_eq hsz.symm)).alloc (by first | omega | (simp; omega)) _).alloc (by first | omega | (simp; omega)) _).alloc (by first | omega | (simp; omega)) _)).drew (by omega)
        have a9 := (hb9.cell (p := ⟨B, 0, none⟩) (Nat.lt_succ_self B)).trans k0
        have c9 := (hb9.cell (p := ⟨B, 1, none⟩) (Nat.lt_succ_self B)).trans k1
        replace hm9 := hide hm9
        replace hb9 := hide hb9
        obtain ⟨v10, hrun10, hm10, hg10, hb10⟩ := put_bundle (W1 := W1) (Wx := (((w2.alloc (Obj.map #[] 0)).alloc (Obj.cells #[.int .i64 (l : Int), .slice A rows.length cc] 24)).alloc (Obj.cells #[.int .i64 (l : Int), .slice A rows.length cc] 24)).drew) (C := B + 1) (M := (w2.heap.size)) (F := F) (SeenV.alloc (SeenV.alloc (SeenV.made_ (by simp)) _) _) hF64 (((((hB2.mono (Nat.le_of_eq hsz.symm)).alloc (by first | omega | (simp; omega)) _).alloc (by first | omega | (simp; omega)) _).alloc (by first | omega | (simp; omega)) _)).drew (by omega)
        have a10 := (hb10.cell (p := ⟨B, 0, none⟩) (Nat.lt_succ_self B)).trans k0
        have c10 := (hb10.cell (p := ⟨B, 1, none⟩) (Nat.lt_succ_self B)).trans k1
        replace hm10 := hide hm10
        replace hb10 := hide hb10
        clear hg0 hg1 hg2 hg3 hg4 hg5 hg6 hg7 hg8 hg9 hg10
        go_region_held3 (fun W => W.cell? ⟨B, 0, none⟩ = some (.int .i64 l) ∧ W.cell? ⟨B, 1, none⟩ = some (.slice A rows.length cc))
          (refine ⟨?_, ?_⟩ <;> (repeat (first | exact m0 | exact m1 | exact a0 | exact c0 | exact a1 | exact c1 | exact a2 | exact c2 | exact a3 | exact c3 | exact a4 | exact c4 | exact a5 | exact c5 | exact a6 | exact c6 | exact a7 | exact c7 | exact a8 | exact c8 | exact a9 | exact c9 | exact a10 | exact c10 | refine cell_up ?_ _)))
          (first
          | (go_at_call 51; refine (HAX.out _).mono ?_; rintro e w3 ⟨rfl, rfl⟩))
        all_goals (
          go_wp2_with fail
          go_meet
          case rel =>
            refine ⟨_, _, rfl, rfl, ?_, ?_, ?_, ?_, ?_⟩
            · first | omega | (have q0 := hb0.out.size; omega) | (have q1 := hb1.out.size; omega) | (have q2 := hb2.out.size; omega) | (have q3 := hb3.out.size; omega) | (have q4 := hb4.out.size; omega) | (have q5 := hb5.out.size; omega) | (have q6 := hb6.out.size; omega) | (have q7 := hb7.out.size; omega) | (have q8 := hb8.out.size; omega) | (have q9 := hb9.out.size; omega) | (have q10 := hb10.out.size; omega)
            · omega
            · first | exact hi0.out | exact hi1.out | exact hi2.out | exact hi3.out | exact hi4.out | exact hi5.out | exact hi6.out | exact hi7.out | exact Ints.one_ rfl (by have := hb8.out.size; omega) _ | exact Ints.one_ rfl (by have := hb9.out.size; omega) _ | exact Ints.one_ rfl (by have := hb10.out.size; omega) _
            · first | exact hm0.out | exact hm1.out | exact hm2.out | exact hm3.out | exact hm4.out | exact hm5.out | exact hm6.out | exact hm7.out | exact hm8.out | exact hm9.out | exact hm10.out | exact SeenV.alloc hm8.out _ | exact SeenV.alloc hm9.out _ | exact SeenV.alloc hm10.out _
            · first | exact hb0.out | exact hb1.out | exact hb2.out | exact hb3.out | exact hb4.out | exact hb5.out | exact hb6.out | exact hb7.out | exact hb8.out | exact hb9.out | exact hb10.out | exact hb8.out.alloc (by have := hb8.out.size; omega) _ | exact hb9.out.alloc (by have := hb9.out.size; omega) _ | exact hb10.out.alloc (by have := hb10.out.size; omega) _)
      case rest =>
        obtain ⟨X, M, rfl, rfl, hX, hM0, hI, hM, hB⟩ := hcut
        clear hAcc m0 m1 hB2
        have hs1 := hB.size
        have hIt0 : (wc.iter s 0).heap[wc.heap.size]? = some (.stringIter s 0) := World.iter_heap wc s 0
        have hBi : Below (B + 1) W1 (wc.iter s 0) := hB.alloc (by omega) _
        have hIi : Ints (wc.iter s 0) (B + 1) (.slice (some ⟨X, 0, none⟩) 1 1) [(F : Int)] := hI.alloc (.stringIter s 0)
        have hMi : SeenV (wc.iter s 0) M [F] := hM.alloc (.stringIter s 0)
        obtain ⟨It, hIt⟩ : ∃ It, wc.heap.size = It := ⟨_, rfl⟩
        rw [hIt] at hIt0
        have hItB : B + 1 ≤ It := by omega
        have hItM : It ≠ M := by have := hM.lt; omega
        go_wp2
        generalize wc.iter s 0 = W3 at hIt0 hBi hIi hMi ⊢
        clear hs1 hI hM hB hIt
        have HIi := hide hIi
        have HMi := hide hMi
        have HBi := hide hBi
        clear hIi hMi hBi
        go_loopg [7, 9] s.size (fun gk nv ov wr => ∃ k : Nat, gk = s.size - k ∧ k ≤ s.size ∧ wr.heap[It]? = some (.stringIter s k) ∧ OutV wr (B + 1) ov ((lays rows l k).map ints) ∧ Ints wr (B + 1) nv (ints (layS rows l k).1) ∧ SeenV wr M (layS rows l k).2 ∧ Below (B + 1) W1 wr)
        case atStart => exact ⟨0, rfl, Nat.zero_le _, hIt0, OutV.nil_ _ _, by rw [HL0.out]; exact HIi.out, by rw [HL0.out]; exact HMi.out, HBi.out⟩
        case round =>
          obtain ⟨k, hgk, hk, hit, hO, hI, hM, hB⟩ := hrel
          clear HIi HMi HBi hIt0
          by_cases hks : k < s.size
          · have hasc : (s[k]'hks).toNat < 128 := dig_ascii (HOK.out _ (mem_bytes s k hks)).1
            have hnx := fun ty => Lib.run_next_ascii_at (P := Tryz.prog) wr It s k ty hit hks hasc
            have hkc := KeepC.iter hit (k + 1)
            have hit5 := Lib.iterAt_heap wr It s k (k + 1) hit
            have hO5 := hO.keepC hkc
            have hI5 := hI.keepC hkc
            have hM5 := hM.move (w' := wr.iterAt It s (k + 1)) (Lib.iterAt_other wr It M s (k + 1) (fun e => hItM e.symm))
            have hB5 := Lib.below_iterAt hB hItB s (k + 1)
            have hDif := (layS_dif HA.out k)
            obtain ⟨now, seen, hns⟩ : ∃ now seen, layS rows l k = (now, seen) := ⟨_, _, rfl⟩
            have HN1 := hide (layS_next hns)
            have HN0 := hide (lays_succ rows l k)
            rw [hns] at HN0 hI5 hM5 hDif
            have hlk : ((lays rows l k).map ints).length ≤ 64 := by rw [List.length_map, lays_len]; omega
            have HLK := hide hlk
            obtain ⟨ls, hls⟩ : ∃ ls, (lays rows l k).map ints = ls := ⟨_, rfl⟩
            rw [hls] at hO5 hlk
            have hdl : now.length ≤ 64 := hDif.2.2
            have HDF := hide hDif
            clear hit hO hI hM hB hasc hkc hDif hns HLK
            generalize wr.iterAt It s (k + 1) = W5 at hnx hit5 hO5 hI5 hM5 hB5
            have hB5s := hB5.size
            obtain ⟨a1, c1, hsh⟩ := hI5.shape
            rw [ints_len] at hsh
            subst hsh
            obtain ⟨a2, c2, rfl⟩ := hO5.shape
            obtain ⟨vs5, hrow5, _⟩ := id hO5
            have H5 := hide (And.intro hit5 (And.intro hO5 (And.intro hI5 (And.intro hM5 (And.intro hB5 hrow5)))))
            clear hit5 hM5 hB5 hrow5
            go_wp2_with (at_builtin; refine wpList_app_out rfl (.tmp 35) (.tmp 37) rfl (B + 1) _ ls rfl (hO5.alloc _) _ (ints now) (hI5.alloc _) W5.heap.size rfl (heap_alloc_new W5 _) (by omega) (by simp; omega) ?_; intro v6 w6 hO6 hg6)
            replace hg6 : (W5.alloc (Obj.cells #[.slice a1 now.length c1] 35)).grownBy w6 (Value.ownBlock (.slice a2 ls.length c2)) := hg6
            obtain ⟨hit5, _, _, hM5, hB5, hrow5⟩ := H5.out
            clear H5
            have hcel5 : ∀ c t, (W5.alloc (Obj.cells #[.slice a1 now.length c1] 35)).heap[It]? ≠ some (Obj.cells c t (0, 0)) := fun c t e => by
              rw [heap_alloc_old W5 _ (Array.getElem?_eq_some_iff.1 hit5).1, hit5] at e
              cases e
            have hit6 : w6.heap[It]? = some (.stringIter s (k + 1)) := by
              rw [hg6.block It (by simp; have := (Array.getElem?_eq_some_iff.1 hit5).1; omega) (out_ne_obj (hO5.alloc _) hcel5), heap_alloc_old W5 _ (Array.getElem?_eq_some_iff.1 hit5).1]
              exact hit5
            have hrow5a : (W5.alloc (Obj.cells #[.slice a1 now.length c1] 35)).ownsRow (B + 1) 35 1 (.slice a2 ls.length c2) ls.length vs5 := World.ownsRow.alloc hrow5 _
            have hI5a : Ints (W5.alloc (Obj.cells #[.slice a1 now.length c1] 35)) (B + 1) (.slice a1 now.length c1) (ints now) := hI5.alloc _
            have hI6 : Ints w6 (B + 1) (.slice a1 now.length c1) (ints now) := World.ownsRow.kept hI5a hg6 (intRow_out hI5a hrow5a)
            have hM6 : SeenV w6 M seen := (hM5.alloc _).kept hg6 (row_ne_map hrow5a (hM5.alloc _))
            have hB6 : Below (B + 1) W1 w6 := (hB5.alloc (by omega) _).grown hg6 (by simp; omega) (fun j e => (World.ownsRow.lt hrow5a j e).1)
            have hs6 := hB6.size
            clear hit5 hM5 hB5 hrow5 hrow5a hI5a hg6 hcel5 hO5 hI5
            obtain ⟨N, hN⟩ : ∃ N, w6.heap.size = N := ⟨_, rfl⟩
            have hMk : MakI w6 It N (k + 1) s (ints (nxtK rows l now seen 0)) (w6.alloc (Obj.cells #[.slice none 0 0] 35)) :=
              ⟨⟨_, by rw [← hN]; exact heap_alloc_new w6 _, Ints.nil_ _ _⟩, KeepC.below ((Below.refl _ w6).alloc (Nat.le_refl _) _), by rw [heap_alloc_old w6 _ (Array.getElem?_eq_some_iff.1 hit6).1]; exact hit6⟩
            have hM7 : SeenV (w6.alloc (Obj.cells #[.slice none 0 0] 35)) M (seen ++ nxtK rows l now seen 0) := by rw [show seen ++ nxtK rows l now seen 0 = seen by simp [nxtK]]; exact hM6.alloc _
            have hB7 : Below (B + 1) W1 (w6.alloc (Obj.cells #[.slice none 0 0] 35)) := hB6.alloc (by omega) _
            have hMN : M < N := by have := hM6.lt; omega
            have hItN : It < N := by have := (Array.getElem?_eq_some_iff.1 hit6).1; omega
            have HI6 := hide hI6
            have HO6 := hide hO6
            have hil := ints_len now
            have HIT := hide (And.intro hit6 hM6)
            clear hI6 hit6 hO6 hM6 hB6
            rw [hN]
            replace hN := hide hN
            replace hil := hide hil
            go_loopg [41] now.length (fun gi iv wr => ∃ i : Nat, gi = now.length - i ∧ iv = .int .i64 i ∧ i ≤ now.length ∧ MakI w6 It N (k + 1) s (ints (nxtK rows l now seen i)) wr ∧ SeenV wr M (seen ++ nxtK rows l now seen i) ∧ Below (B + 1) W1 wr)
            case atStart => exact ⟨0, rfl, rfl, Nat.zero_le _, hMk, hM7, hB7⟩
            case round =>
              obtain ⟨i, hgi, rfl, hi, hMk, hM, hB⟩ := hrel
              clear hM7 hB7
              by_cases hin : i < now.length
              · obtain ⟨g, cap, e0, hg1, hg2⟩ := HI6.out.form (by rw [hil.out]; omega)
                rw [hil.out] at e0
                cases e0
                have hx2 : now.getD i 0 < 2 ^ rows.length := by
                  rw [List.getD_eq_getElem?_getD, List.getElem?_eq_getElem hin]
                  exact HDF.out.2.1 _ (List.getElem_mem hin)
                have hce := ((HI6.out.keepC hMk.2.1).cell (k := i) (by rw [hil.out]; exact hin))
                rw [show (ints now)[i]'(by rw [hil.out]; exact hin) = ((now.getD i 0 : Nat) : Int) by rw [List.getD_eq_getElem?_getD, List.getElem?_eq_getElem hin]; simp [ints]] at hce
                have HNS := hide (nxtK_succ rows l now seen i)
                obtain ⟨x, hx⟩ : ∃ x, now.getD i 0 = x := ⟨_, rfl⟩
                rw [hx] at hx2 hce HNS
                have hzl := nxtK_len HA.out HDF.out.1 (now := now) i
                have hbx7 : BoxA wr B l A rows.length cc := (hB.block B (Nat.lt_succ_self B)).trans hbx
                have m0 := hbx7.c0
                have m1 := hbx7.c1
                have hsB := hB.size
                obtain ⟨z, hz⟩ : ∃ z, nxtK rows l now seen i = z := ⟨_, rfl⟩
                rw [hz] at hMk hM HNS hzl
                have HFR := hide (zfreshL_any rows l x A cc M (B + 1) N (seen ++ z) (fun W lst => MakI w6 It N (k + 1) s (ints (z ++ snd lst)) W) wr HA.out hx2
                  (fun W hW => ⟨HR.out.below ((hB.trans hW).mono (Nat.le_of_eq hsz)), HT.out.below ((hB.trans hW).mono (Nat.le_of_eq hsz))⟩)
                  hM0 (by omega) hM (by rw [show z ++ snd [] = z by simp [snd]]; exact hMk) (by omega)
                  (fun W W' lst h hb => h.belowL hb) (fun W W' lst T h hT hg => hT.map_ h hg)
                  (by
                    rintro W lst c y ⟨⟨v, a, b⟩, d, e⟩ hcL hlc hy
                    have hl3 := HA.out.l3
                    have hzz : (ints (z ++ snd lst)).length ≤ 100000 := by
                      rw [ints_len, List.length_append]
                      have h2 : (snd lst).length = lst.length := by simp [snd]
                      rw [List.length_append] at hzl
                      omega
                    refine (zLayersf_any c y N v _ W a b hzz).mono ?_
                    rintro e2 W' ⟨rfl, ⟨v', a', b'⟩, hka, hb'⟩
                    refine ⟨rfl, ⟨⟨v', a', ?_⟩, fun j q t hj => (hb'.block j (by have := (Array.getElem?_eq_some_iff.1 hj).1; have := hN.out; omega)).trans (d j q t hj), (hb'.block It hItN).trans e⟩, fun T hT => hT.below hb' hMN, hka, hb'.mono (by omega)⟩
                    rw [show z ++ snd (lst ++ [(c, y)]) = (z ++ snd lst) ++ [y] by simp [snd], ints_append]
                    exact b'))
                clear hx hz hMk hM
                go_wp2_with (go_at_call 52; refine HFR.out.mono ?_; rintro e W6 ⟨rfl, hMk6, hM6', hB6'⟩)
                go_roundg (now.length - (i + 1))
                case rel => exact ⟨i + 1, rfl, by go_num, hin, by rw [HNS.out]; exact hMk6, by rw [HNS.out, ← List.append_assoc]; exact hM6', hB.trans hB6'⟩
                case measure => omega
              · obtain rfl : i = now.length := by omega
                have hzl := nxtK_len HA.out HDF.out.1 (now := now) now.length
                obtain ⟨z, hz⟩ : ∃ z, nxtK rows l now seen now.length = z := ⟨_, rfl⟩
                rw [hz] at hMk hM hzl HN1
                obtain ⟨⟨v, hv, hIv⟩, hKc, hitv⟩ := hMk
                have cN := hv.cell
                have hzi : (ints z).length ≤ 1000000 := by rw [ints_len]; rw [List.length_append] at hzl; omega
                have HSO := hide (sortI_any (N + 1) v (ints z) wr hIv (by omega))
                have hvi : VarI wr N v := hv
                have hvN : v.ownBlock ≠ some N := row_ne_var hIv hv
                have hsv := hIv.shape
                obtain ⟨a3, c3, rfl⟩ := hsv
                have HV := hide (And.intro hvi (And.intro hvN (And.intro hKc (And.intro hitv (And.intro hM (And.intro hB hIv))))))
                clear hv hIv hKc hitv hM hB hz hvi hvN
                go_wp2_with (go_at_call 54; refine HSO.out.mono ?_; rintro e W8 ⟨rfl, hI8, hg8⟩; have cN8 := (show VarI W8 N (.slice a3 (ints z).length c3) from (hg8.block N HV.out.1.lt (fun e => HV.out.2.1 e.symm)).trans HV.out.1).cell)
                obtain ⟨hvi, hvN, hKc, hitv, hM, hB, hIv⟩ := HV.out
                have hge : ∀ j, some j = (Value.slice a3 (ints z).length c3).ownBlock → N + 1 ≤ j := fun j e => (World.ownsRow.lt hIv j e.symm).1
                have hKc8 : KeepC w6 W8 := fun j q t hj => by
                  have hjl : j < N := by have := (Array.getElem?_eq_some_iff.1 hj).1; have := hN.out; omega
                  have h1 := hKc j q t hj
                  exact (hg8.block j (Array.getElem?_eq_some_iff.1 h1).1 (fun e => by have := hge j e; omega)).trans h1
                go_roundg (s.size - (k + 1))
                case measure => omega
                case rel =>
                  refine ⟨k + 1, rfl, hks, (hg8.block It (Array.getElem?_eq_some_iff.1 hitv).1 (fun e => by have := hge It e; omega)).trans hitv, ?_, ?_, ?_, hB.grown hg8 (by have := hB.size; omega) (fun j e => by have := hge j e.symm; omega)⟩
                  · rw [HN0.out, List.map_append, hls]
                    exact HO6.out.keepC hKc8
                  · rw [HN1.out]
                    show Ints W8 (B + 1) _ (ints (srtN z))
                    rw [← srt_ints]
                    exact hI8.mono (by omega)
                  · rw [HN1.out]
                    exact hM.kept hg8 (row_ne_map hIv hM)
          · obtain rfl : k = s.size := by omega
            have hnx := fun ty => Lib.run_next_end_at (P := Tryz.prog) wr It s s.size ty hit hks
            go_wp2
            go_ret2
            exact ⟨_, rfl, OutV.mono hO (by omega), hBB ▸ hB0.trans (hB.mono (by omega))⟩
  · obtain ⟨e1, e2⟩ := lay_bad h0
    rw [e1, e2]
    rw [shrV_bad h0] at HS
    clear hR hT hg h0 e1 e2
    go_enter Tryz.func24, Tryz.ntmps24
    go_wp2_with fail
    generalize w.alloc (Obj.cells #[.int .i64 L, .slice A rows.length cc] 24) = W1 at hB0 HR HT hbx k0 k1 hsz ⊢
    go_wp2_with (go_at_call 23; refine (HS.out W1 HR.out HT.out).mono ?_; rintro e w2 ⟨rfl, hB2⟩)
    go_ret2
    exact ⟨_, rfl, OutV.nil_ _ _, hBB ▸ hB0.trans (hB2.mono (by omega))⟩
end Go.Proofs.YtpppbkdbpbpinaaGreatDoor

/- layers (printed by wip/mk_w59.py). -/
set_option linter.unusedVariables false
namespace Go.Proofs.YtpppbkdbpbpinaaGreatDoor
open Go.RowKit Go.Maps
theorem layS_sorted {rows : List (List Int)} {L : Nat} (hA : Aut rows L) : ∀ j, (layS rows L j).1.Pairwise (· < ·)
  | 0 => by simp [layS]
  | j + 1 => by
    have hd := ((layS_dif hA j).1.nxt hA (layS rows L j).1 (layS rows L j).1.length).1
    have hn : (srtN (nxtK rows L (layS rows L j).1 (layS rows L j).2 (layS rows L j).1.length)).Nodup := (List.mergeSort_perm _ _).nodup_iff.2 (List.nodup_append.1 hd).2.1
    have hs : (srtN (nxtK rows L (layS rows L j).1 (layS rows L j).2 (layS rows L j).1.length)).Pairwise fun a b => decide (a ≤ b) = true := List.pairwise_mergeSort (fun a b c h1 h2 => by simp only [decide_eq_true_iff] at *; omega) (fun a b => by simp only [Bool.or_eq_true, decide_eq_true_iff]; omega) _
    exact (hs.and hn).imp fun {a b} h => by
      have h1 := of_decide_eq_true h.1
      have h2 := h.2
      omega
theorem lays_get {rows : List (List Int)} {L k j : Nat} (hj : j < k) : ((lays rows L k).map ints).getD j [] = ints (layS rows L j).1 := by
  rw [List.getD_eq_getElem?_getD, List.getElem?_eq_getElem (by rw [List.length_map, lays_len]; exact hj), Option.getD_some, List.getElem_map]
  simp [lays]
theorem ints_get {a : List Nat} {i : Nat} (hi : i < a.length) : (ints a).getD i 0 = ((a[i] : Nat) : Int) := by
  rw [List.getD_eq_getElem?_getD, List.getElem?_eq_getElem (by rw [ints_len]; exact hi), Option.getD_some]
  simp [ints]
end Go.Proofs.YtpppbkdbpbpinaaGreatDoor

/- boxes of an automaton (printed by wip/mk_w59.py). -/
set_option linter.unusedVariables false
namespace Go.Proofs.YtpppbkdbpbpinaaGreatDoor
open Go.RowKit
/-- a box below: what it holds further on -/
theorem BoxA.b0 {W1 W : World} {B : Nat} {L : Int} {A : Option Addr} {n cc : Nat} (h : BoxA W1 B L A n cc) (hB : Below (B + 1) W1 W) : W.cell? ⟨B, 0, none⟩ = some (.int .i64 L) := (hB.cell (p := ⟨B, 0, none⟩) (Nat.lt_succ_self B)).trans h.c0
theorem BoxA.b1 {W1 W : World} {B : Nat} {L : Int} {A : Option Addr} {n cc : Nat} (h : BoxA W1 B L A n cc) (hB : Below (B + 1) W1 W) : W.cell? ⟨B, 1, none⟩ = some (.slice A n cc) := (hB.cell (p := ⟨B, 1, none⟩) (Nat.lt_succ_self B)).trans h.c1
theorem Below.go {C : Nat} {W1 W w' : World} (h : Below C W1 W) (hC : C ≤ W1.heap.size) (k : Below W.heap.size W w') : Below C W1 w' := h.trans (k.mono (Nat.le_trans hC h.size))
end Go.Proofs.YtpppbkdbpbpinaaGreatDoor

/- grooveref44.Layers: its contract. -/
set_option linter.unusedVariables false
namespace Go.Proofs.YtpppbkdbpbpinaaGreatDoor
open Go.RowKit Go.Maps
/-- the map holds just these numbers -/
def SeenS (w : World) (M : Nat) (S : List Nat) : Prop := ∃ T, SeenV w M T ∧ T.length ≤ 64 ∧ ∀ x, x ∈ T ↔ x ∈ S
theorem SeenS.below {w w' : World} {M C : Nat} {S : List Nat} (h : SeenS w M S) (hb : Below C w w') (hc : w.heap.size ≤ C) : SeenS w' M S := by
  obtain ⟨T, a, b, c⟩ := h
  exact ⟨T, a.belowL hb hc, b, c⟩
theorem SeenS.kept {w w' : World} {M : Nat} {S : List Nat} {row : Option Nat} (h : SeenS w M S) (hg : w.grownBy w' row) (hne : some M ≠ row) : SeenS w' M S := by
  obtain ⟨T, a, b, c⟩ := h
  exact ⟨T, a.kept hg hne, b, c⟩
theorem SeenS.lt {w : World} {M : Nat} {S : List Nat} (h : SeenS w M S) : M < w.heap.size := by
  obtain ⟨T, a, _, _⟩ := h
  exact a.lt
theorem SeenS.obj {w : World} {M : Nat} {S : List Nat} (h : SeenS w M S) : ∃ T, SeenV w M T := by
  obtain ⟨T, a, _, _⟩ := h
  exact ⟨T, a⟩
theorem SeenS.look {w : World} {M : Nat} {S : List Nat} (h : SeenS w M S) (z : Nat) (hz : z < 9223372036854775808) :
    (Instr.lookup 107 (.map (some M)) (.int .i64 z) false).run Tryz.prog w = .ok (.bool (decide (z ∈ S))) w := by
  obtain ⟨T, a, b, c⟩ := h
  rw [a.look z hz]
  simp only [c]
/-- what a round keeps: the row that is made (blocks from g on), the maps N and Q, the layer M, all blocks of cells that lay -/
structure RLy (W0 W1 : World) (C g : Nat) (lv : Value) (zs : List Int) (N Q M : Nat) (S1 S2 now : List Nat) (w : World) : Prop where
  row : Ints w g lv zs
  kc : KeepC W0 w
  mN : SeenV w N S1
  mQ : SeenV w Q S2
  mM : SeenS w M now
  bel : Below C W1 w
theorem RLy.belowL {W0 W1 w w' : World} {C g : Nat} {lv : Value} {zs : List Int} {N Q M : Nat} {S1 S2 now : List Nat} (h : RLy W0 W1 C g lv zs N Q M S1 S2 now w) (hC : C ≤ W1.heap.size) (hb : Below w.heap.size w w') : RLy W0 W1 C g lv zs N Q M S1 S2 now w' :=
  ⟨h.row.below hb (Nat.le_refl _), h.kc.trans (KeepC.below hb), h.mN.belowL hb (Nat.le_refl _), h.mQ.belowL hb (Nat.le_refl _), h.mM.below hb (Nat.le_refl _), Below.go h.bel hC hb⟩
theorem RLy.app {W0 W1 w w' : World} {C g : Nat} {lv v' : Value} {zs zs' : List Int} {N Q M : Nat} {S1 S2 now : List Nat} (h : RLy W0 W1 C g lv zs N Q M S1 S2 now w) (hC : C ≤ W1.heap.size) (hg0 : W0.heap.size ≤ g) (hCg : C ≤ g) {o : Obj} (hg : (w.alloc o).grownBy w' lv.ownBlock) (hr : Ints w' g v' zs') : RLy W0 W1 C g v' zs' N Q M S1 S2 now w' := by
  have hra : Ints (w.alloc o) g lv zs := h.row.alloc o
  have hs := h.bel.size
  refine ⟨hr, fun j c t e => ?_, (h.mN.alloc o).kept hg (row_ne_map hra (h.mN.alloc o)), (h.mQ.alloc o).kept hg (row_ne_map hra (h.mQ.alloc o)), ?_, (h.bel.alloc (by omega) o).grown hg (by simp; omega) (fun j e => by have := (World.ownsRow.lt hra j e).1; omega)⟩
  · have h1 := h.kc j c t e
    have hjl := (Array.getElem?_eq_some_iff.1 h1).1
    have hj0 := (Array.getElem?_eq_some_iff.1 e).1
    have h2 := (heap_alloc_old w o hjl).trans h1
    exact (hg.block j (Array.getElem?_eq_some_iff.1 h2).1 (fun e2 => by have := (World.ownsRow.lt hra j e2.symm).1; omega)).trans h2
  · obtain ⟨T, a, b, c⟩ := h.mM
    exact ⟨T, (a.alloc o).kept hg (row_ne_map hra (a.alloc o)), b, c⟩
theorem RLy.putQ {W0 W1 w w' : World} {C g : Nat} {lv : Value} {zs : List Int} {N Q M : Nat} {S1 S2 S2' now : List Nat} (h : RLy W0 W1 C g lv zs N Q M S1 S2 now w) (hC : C ≤ W1.heap.size) (hCQ : C ≤ Q) (hNQ : N ≠ Q) (hMQ : M ≠ Q) (hg : w.grownBy w' (some Q)) (hQ : SeenV w' Q S2') : RLy W0 W1 C g lv zs N Q M S1 S2' now w' :=
  ⟨h.row.keepC (KeepC.map_ h.mQ hg), h.kc.trans (KeepC.map_ h.mQ hg), h.mN.kept hg (fun e => hNQ (by cases e; rfl)), hQ, h.mM.kept hg (fun e => hMQ (by cases e; rfl)), h.bel.grown hg (by have := h.bel.size; omega) (fun j e => by cases e; exact hCQ)⟩
theorem RLy.putN {W0 W1 w w' : World} {C g : Nat} {lv : Value} {zs : List Int} {N Q M : Nat} {S1 S1' S2 now : List Nat} (h : RLy W0 W1 C g lv zs N Q M S1 S2 now w) (hC : C ≤ W1.heap.size) (hCN : C ≤ N) (hNQ : N ≠ Q) (hMN : M ≠ N) (hg : w.grownBy w' (some N)) (hN : SeenV w' N S1') : RLy W0 W1 C g lv zs N Q M S1' S2 now w' :=
  ⟨h.row.keepC (KeepC.map_ h.mN hg), h.kc.trans (KeepC.map_ h.mN hg), hN, h.mQ.kept hg (fun e => hNQ (by cases e; rfl)), h.mM.kept hg (fun e => hMN (by cases e; rfl)), h.bel.grown hg (by have := h.bel.size; omega) (fun j e => by cases e; exact hCN)⟩
/-- the first j numbers of a list are below n, the others are not -/
def CutAt (now : List Nat) (j n : Nat) : Prop := j ≤ now.length ∧ (∀ i, i < j → now.getD i 0 < n) ∧ ∀ i, j ≤ i → i < now.length → n ≤ now.getD i 0
theorem getD_mem {now : List Nat} {i : Nat} (h : i < now.length) : now.getD i 0 ∈ now := by
  rw [List.getD_eq_getElem?_getD, List.getElem?_eq_getElem h]
  exact List.getElem_mem h
theorem mem_getD {now : List Nat} {n : Nat} (h : n ∈ now) : ∃ i, i < now.length ∧ now.getD i 0 = n := by
  obtain ⟨i, hi, rfl⟩ := List.getElem_of_mem h
  exact ⟨i, hi, by rw [List.getD_eq_getElem?_getD, List.getElem?_eq_getElem hi]; rfl⟩
theorem CutAt.no {now : List Nat} {j n : Nat} (h : CutAt now j n) (hm : n ∉ now) : CutAt now j (n + 1) :=
  ⟨h.1, fun i hi => by have := h.2.1 i hi; omega, fun i h1 h2 => by
    have := h.2.2 i h1 h2
    rcases Nat.lt_or_ge n (now.getD i 0) with e | e
    · exact e
    · exact absurd (show n ∈ now by rw [show n = now.getD i 0 by omega]; exact getD_mem h2) hm⟩
theorem CutAt.yes {now : List Nat} {j n : Nat} (hs : now.Pairwise (· < ·)) (h : CutAt now j n) (hm : n ∈ now) : j < now.length ∧ now.getD j 0 = n ∧ CutAt now (j + 1) (n + 1) := by
  have hord : ∀ a b, a < b → b < now.length → now.getD a 0 < now.getD b 0 := fun a b hab hb => by
    rw [List.getD_eq_getElem?_getD, List.getElem?_eq_getElem (show a < now.length by omega), List.getD_eq_getElem?_getD, List.getElem?_eq_getElem hb]
    exact List.pairwise_iff_getElem.1 hs a b (by omega) hb hab
  obtain ⟨i, hi, he⟩ := mem_getD hm
  have hji : j ≤ i := by
    rcases Nat.lt_or_ge i j with e | e
    · have := h.2.1 i e; omega
    · exact e
  have hj : j = i := by
    rcases Nat.lt_or_ge j i with e | e
    · have h1 := h.2.2 j (Nat.le_refl _) (by omega)
      have h2 := hord j i e hi
      omega
    · omega
  subst hj
  refine ⟨hi, he, hi, fun a ha => ?_, fun a h1 h2 => ?_⟩
  · by_cases e : a < j
    · have := h.2.1 a e; omega
    · rw [show a = j by omega, he]; omega
  · have := hord j a (by omega) h2
    omega
set_option maxRecDepth 100000 in
set_option maxHeartbeats 4000000 in
theorem zrLayers_any (L : Int) (rows : List (List Int)) (A : Option Addr) (cc : Nat) (w : World) (hg : Fit L rows) (hR : RowD w A rows) (hT : TabZ w) (hb : rows.length ≤ 9223372036854775807) :
    Calls Tryz.prog 27 #[.agg #[.int .i64 L, .slice A rows.length cc]] w fun e w' => ∃ v, e = .returned (.tuple #[v, .int .i64 (layE L rows)]) ∧ OutV w' w.heap.size v (layO L rows) ∧ Below w.heap.size w w' := by
  have hB0 : Below w.heap.size w (w.alloc (Obj.cells #[.int .i64 L, .slice A rows.length cc] 24)) := (Below.refl _ w).alloc (Nat.le_refl _) _
  have HR := hide (hR.below hB0)
  have HT := hide (hT.below hB0)
  obtain ⟨B, hBB⟩ : ∃ B, w.heap.size = B := ⟨_, rfl⟩
  have hbx : BoxA (w.alloc (Obj.cells #[.int .i64 L, .slice A rows.length cc] 24)) B L A rows.length cc := by rw [← hBB]; exact heap_alloc_new w _
  have k0 := hbx.c0
  have k1 := hbx.c1
  have hsz : (w.alloc (Obj.cells #[.int .i64 L, .slice A rows.length cc] 24)).heap.size = B + 1 := by rw [← hBB]; simp
  have HS := hide (fun W (h : RowD W A rows) (hT : TabZ W) => zrShortest_any L rows A cc W hg h hT hb)
  by_cases h0 : chkA L rows = 0
  · obtain ⟨l, rfl, hA⟩ := aut_fit hg h0
    rw [shrV_ok h0] at HS
    have hn := hA.n6
    obtain ⟨s, bo, hR0⟩ : ∃ s bo, first rows l (fullS rows) = (s, bo) := ⟨_, _, rfl⟩
    have HFS := hide (first_size hA (full_lt rows.length))
    unfold fullS at hR0 HS HFS
    rw [hR0] at HS HFS
    cases bo with
    | false =>
      obtain ⟨e1, e2⟩ := lay_no h0 hR0
      rw [e1, e2]
      clear hR hT hg h0 hA hR0 e1 e2 HFS
      go_enter Tryz.func27, Tryz.ntmps27
      go_wp2_with fail
      generalize w.alloc (Obj.cells #[.int .i64 (l : Int), .slice A rows.length cc] 24) = W1 at hB0 HR HT hbx k0 k1 hsz ⊢
      go_wp2_with (go_at_call 25; refine (HS.out W1 HR.out HT.out).mono ?_; rintro e w2 ⟨rfl, hB2⟩)
      go_ret2
      exact ⟨_, rfl, OutV.nil_ _ _, hBB ▸ hB0.trans (hB2.mono (by omega))⟩
    | true =>
      obtain ⟨e1, e2⟩ := lay_ok h0 hR0
      rw [e1, e2]
      have HA := hide hA
      have hs64 : s.size ≤ 64 := HFS.out
      have hl3 := hA.l3
      have HFU := hide (fun W => zfull_any rows l A cc W (by omega))
      obtain ⟨F, hFF⟩ : ∃ F, 2 ^ rows.length - 1 = F := ⟨_, rfl⟩
      have hF64 : F < 64 := by rw [← hFF]; exact Nat.lt_of_lt_of_le (full_lt _) hA.pow
      have HL0 := hide (show layS rows l 0 = ([F], [F]) by rw [← hFF]; rfl)
      have HF2 := hide (show F + 1 = 2 ^ rows.length by rw [← hFF]; have := Nat.pow_pos (n := rows.length) (show 0 < 2 by decide); omega)
      rw [hFF] at HFU
      have hmm := @run_makeMap Tryz.prog
      clear hR hT hg h0 hA hR0 e1 e2 hFF HFS
      go_enter Tryz.func27, Tryz.ntmps27
      go_wp2_with fail
      generalize w.alloc (Obj.cells #[.int .i64 (l : Int), .slice A rows.length cc] 24) = W1 at hB0 HR HT hbx k0 k1 hsz ⊢
      have lB : B < W1.heap.size := by omega
      go_wp2_with fail
      refine (HS.out W1 HR.out HT.out).mono ?_
      rintro e w2 ⟨rfl, hB2⟩
      replace hB2 : Below (B + 1) W1 w2 := hB2.mono (Nat.le_of_eq hsz.symm)
      have m0 := hbx.b0 hB2
      have m1 := hbx.b1 hB2
      have hs2 := hB2.size
      have c0 := cell_up (cell_up m0 (Obj.cells #[] 35)) (Obj.map #[] 0)
      have c1 := cell_up (cell_up m1 (Obj.cells #[] 35)) (Obj.map #[] 0)
      have hB3 : Below (B + 1) W1 ((w2.alloc (Obj.cells #[] 35)).alloc (Obj.map #[] 0)) := (hB2.alloc (by omega) _).alloc (by simp; omega) _
      have hO3 : OutV ((w2.alloc (Obj.cells #[] 35)).alloc (Obj.map #[] 0)) (B + 1) (.slice (some ⟨w2.heap.size, 0, none⟩) 0 0) [] := (OutV.empty_ rfl (by omega)).alloc _
      have hM3 : SeenV ((w2.alloc (Obj.cells #[] 35)).alloc (Obj.map #[] 0)) (w2.heap.size + 1) [] := SeenV.made_ (by simp)
      have hc1 : B + 1 ≤ W1.heap.size := by omega
      obtain ⟨P, hP⟩ : ∃ P, w2.heap.size = P := ⟨_, rfl⟩
      rw [hP] at hO3 hM3
      have hBP : B + 1 ≤ P := by omega
      have HO3 := hide hO3
      have HM3 := hide hM3
      have HB3 := hide hB3
      clear hO3 hM3 hB3
      go_wp2_with fail
      generalize (w2.alloc (Obj.cells #[] 35)).alloc (Obj.map #[] 0) = w3 at HO3 HM3 HB3 c0 c1 ⊢
      refine (HFU.out _).mono ?_
      rintro e w4 ⟨rfl, hX⟩
      have hB4 := Below.go HB3.out hc1 hX
      have hM4 := HM3.out.belowL hX (Nat.le_refl _)
      have hO4 := HO3.out.keepC (KeepC.below hX)
      obtain ⟨w5, hrun5, hM5, hg5⟩ := hM4.store (by simp) F (by omega)
      have hO5 := hO4.keepC (KeepC.map_ hM4 hg5)
      have hB5 : Below (B + 1) W1 w5 := hB4.grown hg5 (by have := hB4.size; omega) (fun j e => by cases e; omega)
      have hM6 : SeenV (w5.alloc (Obj.map #[] 0)) w5.heap.size [] := SeenV.made_ rfl
      have hQ6 := hM5.alloc (Obj.map #[] 0)
      have hO6 := hO5.alloc (Obj.map #[] 0)
      have hB6 : Below (B + 1) W1 (w5.alloc (Obj.map #[] 0)) := hB5.alloc (by have := hB5.size; omega) _
      have m0 := cell_up (hbx.b0 hB5) (Obj.map #[] 0)
      have m1 := cell_up (hbx.b1 hB5) (Obj.map #[] 0)
      have hPM : P + 1 < w5.heap.size := hM5.lt
      have H6 := hide (And.intro hM6 (And.intro hQ6 (And.intro hO6 hB6)))
      clear hX hB4 hM4 hO4 hM5 hg5 hO5 hB5 hM6 hQ6 hO6 hB6
      obtain ⟨M, hMM⟩ : ∃ M, w5.heap.size = M := ⟨_, rfl⟩
      rw [hMM] at H6 hPM
      go_wp2_with fail
      try rw [hMM]
      generalize w5.alloc (Obj.map #[] 0) = w6 at H6 m0 m1 ⊢
      obtain ⟨hM6, hQ6, hO6, hB6⟩ := H6.out
      refine (HFU.out _).mono ?_
      rintro e w7 ⟨rfl, hX⟩
      have hB7 := Below.go hB6 hc1 hX
      have hM7 := hM6.belowL hX (Nat.le_refl _)
      have hQ7 := hQ6.belowL hX (Nat.le_refl _)
      have hO7 := hO6.keepC (KeepC.below hX)
      obtain ⟨w8, hrun8, hM8, hg8⟩ := hM7.store (by simp) F (by omega)
      have hQ8 := hQ7.kept hg8 (by simp; omega)
      have hO8 := hO7.keepC (KeepC.map_ hM7 hg8)
      have hB8 : Below (B + 1) W1 w8 := hB7.grown hg8 (by have := hB7.size; omega) (fun j e => by cases e; omega)
      have HS8 : Hid (SeenS w8 M (layS rows l 0).1) := hide (by rw [HL0.out]; exact ⟨[F], hM8, by simp, fun x => Iff.rfl⟩)
      have H8 := hide (And.intro hQ8 (And.intro hO8 hB8))
      clear hX hB7 hM7 hQ7 hO7 hM8 hg8 hQ8 hO8 hB8 hM6 hQ6 hO6 hB6 H6
      go_wp2
      go_loopg [7, 9, 10] s.size (fun gk ov mv iv wr => ∃ i M : Nat, gk = s.size - i ∧ iv = .int .i64 i ∧ i ≤ s.size ∧ mv = .map (some M) ∧ P + 1 < M ∧ OutV wr (B + 1) ov ((lays rows l i).map ints) ∧ SeenS wr M (layS rows l i).1 ∧ SeenV wr (P + 1) (layS rows l i).2 ∧ Below (B + 1) W1 wr)
      case atStart => exact ⟨0, M, rfl, rfl, Nat.zero_le _, rfl, hPM, H8.out.2.1, HS8.out, by rw [HL0.out]; exact H8.out.1, H8.out.2.2⟩
      case round =>
        obtain ⟨i, M, hgk, rfl, hi, rfl, hPM, hO, hM, hQ, hB⟩ := hrel
        clear HS8 H8
        by_cases his : i < s.size
        · have hDif := layS_dif HA.out i
          have hSor := layS_sorted HA.out i
          obtain ⟨now, seen, hns⟩ : ∃ now seen, layS rows l i = (now, seen) := ⟨_, _, rfl⟩
          have HN1 := hide (layS_next hns)
          have HN0 := hide (lays_succ rows l i)
          rw [hns] at HN0 hM hQ hDif hSor
          have hlk : ((lays rows l i).map ints).length ≤ 64 := by rw [List.length_map, lays_len]; omega
          obtain ⟨ls, hls⟩ : ∃ ls, (lays rows l i).map ints = ls := ⟨_, rfl⟩
          rw [hls] at hO hlk
          have HLS := hide hls
          have HDF := hide hDif
          have HSO := hide hSor
          have hdl : now.length ≤ 64 := hDif.2.2
          have hsB := hB.size
          have hPl := hQ.lt
          have hMl := hM.lt
          obtain ⟨W0, rfl⟩ : ∃ W0, W0 = wr := ⟨_, rfl⟩
          have hR0 : RLy W0 W1 (B + 1) W0.heap.size (.slice (some ⟨W0.heap.size, 0, none⟩) 0 0) (ints (now.take 0)) (W0.heap.size + 1) (P + 1) M (nxtK rows l now seen 0) (seen ++ nxtK rows l now seen 0) now ((W0.alloc (Obj.cells #[] 3)).alloc (Obj.map #[] 0)) :=
            ⟨(Ints.empty_ rfl (Nat.le_refl _)).alloc _, KeepC.below (((Below.refl _ W0).alloc (Nat.le_refl _) _).alloc (by simp) _), SeenV.made_ (by simp), by rw [show seen ++ nxtK rows l now seen 0 = seen by simp [nxtK]]; exact (hQ.alloc _).alloc _, by
              obtain ⟨T, a, b, c⟩ := hM
              exact ⟨T, (a.alloc _).alloc _, b, c⟩, (hB.alloc (by omega) _).alloc (by simp; omega) _⟩
          have HR0 := hide hR0
          have HO := hide hO
          clear hDif hSor hls hns hO hR0 hQ hM hB
          obtain ⟨g, hgg⟩ : ∃ g, W0.heap.size = g := ⟨_, rfl⟩
          rw [hgg] at HR0 hPl hMl
          have HG := hide hgg
          have hBg : B + 1 ≤ g := by omega
          go_wp2_with fail
          try rw [hgg]
          clear hgg
          generalize (W0.alloc (Obj.cells #[] 3)).alloc (Obj.map #[] 0) = W5 at HR0 ⊢
          go_loopg [11, 13] (F + 1) (fun gn lv nv wx => ∃ n j : Nat, gn = F + 1 - n ∧ nv = .int .i64 n ∧ n ≤ F + 1 ∧ Hid (CutAt now j n) ∧ RLy W0 W1 (B + 1) g lv (ints (now.take j)) (g + 1) (P + 1) M (nxtK rows l now seen j) (seen ++ nxtK rows l now seen j) now wx)
          case atStart => exact ⟨0, 0, rfl, rfl, Nat.zero_le _, hide ⟨Nat.zero_le _, fun i h => absurd h (by omega), fun i _ _ => Nat.zero_le _⟩, HR0.out⟩
          case round =>
            obtain ⟨n, j, hgn, rfl, hn1, hcut, hR⟩ := hrel
            clear HR0
            have m0 := hbx.b0 hR.bel
            have m1 := hbx.b1 hR.bel
            have HRy := hide hR
            clear hR
            by_cases hnF : n ≤ F
            · by_cases hm : n ∈ now
              · obtain ⟨y1, y2, y3⟩ := hcut.out.yes HSO.out hm
                have HY3 := hide y3
                have HDM : Hid (decide (n ∈ now) = true) := hide (decide_eq_true hm)
                have HTK := hide (show ints (now.take (j + 1)) = ints (now.take j) ++ [(n : Int)] by
                  rw [List.take_succ_eq_append_getElem y1, ints_append]
                  congr 1
                  rw [List.getD_eq_getElem?_getD, List.getElem?_eq_getElem y1] at y2
                  rw [← y2]
                  rfl)
                have HNS := hide (show nxtK rows l now seen (j + 1) = nxtK rows l now seen j ++ snd (frK rows n (seen ++ nxtK rows l now seen j) l) by rw [nxtK_succ, y2])
                have hzl := nxtK_len HA.out HDF.out.1 (now := now) (j + 1)
                have hn2 : n < 2 ^ rows.length := by rw [← y2]; exact HDF.out.2.1 _ (getD_mem y1)
                have hil : (ints (now.take j)).length ≤ 64 := by rw [ints_len, List.length_take]; omega
                have HIL := hide hil
                have HFL := hide (fun k (hk : k ≤ l) => ((HDF.out.1.nxt HA.out now j).fr (S := n) HA.out k hk).len HA.out)
                generalize nxtK rows l now seen j = z at HRy HNS HFL
                clear hm y2 y3 hil hzl
                have hn64 : n < 64 := by omega
                go_wp2_with (first
                  | (go_at_call 57; refine (HFU.out _).mono ?_; rintro e w3 ⟨rfl, hX⟩; have hR3 := HRy.out.belowL hc1 hX; have hlook := hR3.mM.look n (by omega); rw [HDM.out] at hlook; have hs3 := hR3.bel.size; have hgl := hR3.mN.lt; have HR3 := hide hR3; have hrw := hR3.row; clear hR3 hX)
                  | (at_builtin; refine wpList_app_ints rfl (.tmp 54) (.tmp 56) rfl g _ _ rfl (hrw.alloc _) _ 1 [(n : Int)] rfl rfl (heap_alloc_new _ _) (by have := HIL.out; omega) (by simp; omega) ?_; intro v5 w5 hI5 hg5))
                have hR5 : RLy W0 W1 (B + 1) g v5 (ints (now.take (j + 1))) (g + 1) (P + 1) M (z ++ snd (frK rows n (seen ++ z) 0)) (seen ++ z ++ snd (frK rows n (seen ++ z) 0)) now w5 := by
                  have := HR3.out.app hc1 (Nat.le_of_eq HG.out) hBg hg5 (show Ints w5 g v5 (ints (now.take (j + 1))) by rw [HTK.out]; exact hI5)
                  rw [show z ++ snd (frK rows n (seen ++ z) 0) = z by simp [snd, frK], show seen ++ z ++ snd (frK rows n (seen ++ z) 0) = seen ++ z by simp [snd, frK]]
                  exact this
                have HR5 := hide hR5
                clear hR5 hI5 hg5 hrw hlook
                go_loopg [14] l (fun gk kv wy => ∃ k : Nat, gk = l - k ∧ kv = .int .i64 k ∧ k ≤ l ∧ RLy W0 W1 (B + 1) g v5 (ints (now.take (j + 1))) (g + 1) (P + 1) M (z ++ snd (frK rows n (seen ++ z) k)) (seen ++ z ++ snd (frK rows n (seen ++ z) k)) now wy)
                case atStart => exact ⟨0, rfl, rfl, Nat.zero_le _, HR5.out⟩
                case round =>
                  obtain ⟨k, hgk2, rfl, hk, hR⟩ := hrel
                  clear HR5 m0 m1 hs3 hgl
                  have m0 := hbx.b0 hR.bel
                  have m1 := hbx.b1 hR.bel
                  have HRk := hide hR
                  clear hR
                  by_cases hkl : k < l
                  · have hy64 : img rows n k < 64 := Nat.lt_of_lt_of_le (HA.out.img_lt hkl _) HA.out.pow
                    have HIM := hide (fun W (h : RowD W A rows) => zimage_any rows l n k A cc W HA.out hkl hn64 h)
                    have HYE := hide (frK_yes (rows := rows) (S := n) (c := k) (seen := seen ++ z))
                    have HNO := hide (frK_no (rows := rows) (S := n) (c := k) (seen := seen ++ z))
                    have hlen := HFL.out k hk
                    have hlen1 := HFL.out (k + 1) hkl
                    obtain ⟨y, hy⟩ : ∃ y, img rows n k = y := ⟨_, rfl⟩
                    rw [hy] at hy64 HIM HYE HNO
                    obtain ⟨q, hq⟩ : ∃ q, frK rows n (seen ++ z) k = q := ⟨_, rfl⟩
                    rw [hq] at HYE HNO HRk hlen
                    clear hy hq
                    by_cases hm2 : y ∈ seen ++ z ++ snd q
                    · have HDM2 : Hid (decide (y ∈ seen ++ z ++ snd q) = true) := hide (decide_eq_true hm2)
                      have HE := hide (HYE.out hm2)
                      clear hm2 hlen hlen1
                      go_wp2_with (go_at_call 58; refine (HIM.out _ (HR.out.below (HRk.out.bel.mono (Nat.le_of_eq hsz)))).mono ?_; rintro e w6 ⟨rfl, hX⟩; have hR6 := HRk.out.belowL hc1 hX; have hlook := hR6.mQ.look y (by omega); rw [HDM2.out] at hlook; have HR6 := hide hR6; clear hR6 hX)
                      go_roundg (l - (k + 1))
                      case measure => omega
                      case rel => exact ⟨k + 1, rfl, by go_num, hkl, by rw [HE.out]; exact HR6.out⟩
                    · have HDM2 : Hid (decide (y ∈ seen ++ z ++ snd q) = false) := hide (decide_eq_false hm2)
                      have HE := hide (HNO.out hm2)
                      have HLQ := hide hlen
                      clear hm2 hlen hlen1
                      go_wp2_with (go_at_call 58; refine (HIM.out _ (HR.out.below (HRk.out.bel.mono (Nat.le_of_eq hsz)))).mono ?_; rintro e w6 ⟨rfl, hX⟩; have hR6 := HRk.out.belowL hc1 hX; have hlook := hR6.mQ.look y (by omega); rw [HDM2.out] at hlook; obtain ⟨w7, hrun7, hQ7, hg7⟩ := hR6.mQ.store (by have := HLQ.out; omega) y (by omega); have hR7 := hR6.putQ hc1 (by omega) (by omega) (by omega) hg7 hQ7; obtain ⟨w8, hrun8, hN8, hg8⟩ := hR7.mN.store (by have := HLQ.out; simp only [List.length_append] at this ⊢; omega) y (by omega); have hR8 := hR7.putN hc1 (by omega) (by omega) (by omega) hg8 hN8; have HR8 := hide hR8; clear hR6 hX hQ7 hg7 hR7 hN8 hg8 hR8)
                      go_roundg (l - (k + 1))
                      case measure => omega
                      case rel => exact ⟨k + 1, rfl, by go_num, hkl, by
                        rw [HE.out, show snd (q ++ [(k, y)]) = snd q ++ [y] by simp [snd], ← List.append_assoc, ← List.append_assoc]
                        exact HR8.out⟩
                  · obtain rfl : k = l := by omega
                    go_wp2
                    go_roundg (F + 1 - (n + 1))
                    case measure => omega
                    case rel => exact ⟨n + 1, j + 1, rfl, by go_num, by omega, HY3, by rw [HNS.out, ← List.append_assoc]; exact HRk.out⟩
              · have HDM : Hid (decide (n ∈ now) = false) := hide (decide_eq_false hm)
                have HC2 := hide (hcut.out.no hm)
                clear hm
                go_wp2_with (go_at_call 57; refine (HFU.out _).mono ?_; rintro e w3 ⟨rfl, hX⟩; have hR3 := HRy.out.belowL hc1 hX; have hlook := hR3.mM.look n (by omega); rw [HDM.out] at hlook; have HR3 := hide hR3; clear hR3 hX)
                go_roundg (F + 1 - (n + 1))
                case measure => omega
                case rel => exact ⟨n + 1, j, rfl, by go_num, by omega, HC2, HR3.out⟩
            · obtain rfl : n = F + 1 := by omega
              have hj : j = now.length := by
                rcases Nat.lt_or_ge j now.length with e | e
                · have h1 := hcut.out.2.2 j (Nat.le_refl _) e
                  have h2 := HDF.out.2.1 _ (getD_mem e)
                  have := HF2.out
                  omega
                · have := hcut.out.1; omega
              subst hj
              rw [List.take_length] at HRy
              have HZL := hide (nxtK_len HA.out HDF.out.1 (now := now) now.length)
              generalize nxtK rows l now seen now.length = z at HRy HN1 HZL
              obtain ⟨a3, c3, e3⟩ := HRy.out.row.shape
              subst e3
              have hle := hide (show (ints now).length ≤ 64 by rw [ints_len]; exact hdl)
              clear hcut
              go_wp2_with (first
                | (go_at_call 57; refine (HFU.out _).mono ?_; rintro e w3 ⟨rfl, hX⟩; have hR3 := HRy.out.belowL hc1 hX; have hO3 := HO.out.keepC hR3.kc; have hs3 := hR3.bel.size; have HR3 := hide hR3; have hrw := hR3.row; have hgl := hR3.mN.lt; clear hR3 hX)
                | (at_builtin; refine wpList_app_out rfl (.tmp 76) (.tmp 78) rfl (B + 1) _ ls rfl (hO3.alloc _) _ (ints now) ((hrw.mono hBg).alloc _) w3.heap.size rfl (heap_alloc_new w3 _) (by omega) (by simp; omega) ?_; intro v6 w6 hO6 hg6))
              obtain ⟨vs3, hrow3, _⟩ := id hO3
              have hR3 := HR3.out
              have hrow3a := World.ownsRow.alloc hrow3 (Obj.cells #[.slice a3 (ints now).length c3] 35)
              go_roundg (s.size - (i + 1))
              case measure => omega
              case rel =>
                refine ⟨i + 1, g + 1, rfl, by go_num, his, rfl, by omega, ?_, ?_, ?_, ?_⟩
                · rw [HN0.out, List.map_append, HLS.out]; exact hO6
                · rw [HN1.out]
                  have hN := (hR3.mN.alloc (Obj.cells #[.slice a3 (ints now).length c3] 35)).kept hg6 (row_ne_map hrow3a (hR3.mN.alloc _))
                  refine ⟨z, hN, ?_, fun x => srtN_mem.symm⟩
                  have := HZL.out
                  rw [List.length_append] at this
                  omega
                · rw [HN1.out]
                  exact (hR3.mQ.alloc (Obj.cells #[.slice a3 (ints now).length c3] 35)).kept hg6 (row_ne_map hrow3a (hR3.mQ.alloc _))
                · exact (hR3.bel.alloc (by omega) _).grown hg6 (by simp; omega) (fun j e => (World.ownsRow.lt hrow3a j e).1)
        · obtain rfl : i = s.size := by omega
          go_wp2
          go_ret2
          exact ⟨_, rfl, hO.mono (by omega), hBB ▸ hB0.trans (hB.mono (by omega))⟩
  · obtain ⟨e1, e2⟩ := lay_bad h0
    rw [e1, e2]
    rw [shrV_bad h0] at HS
    clear hR hT hg h0 e1 e2
    go_enter Tryz.func27, Tryz.ntmps27
    go_wp2_with fail
    generalize w.alloc (Obj.cells #[.int .i64 L, .slice A rows.length cc] 24) = W1 at hB0 HR HT hbx k0 k1 hsz ⊢
    go_wp2_with (go_at_call 25; refine (HS.out W1 HR.out HT.out).mono ?_; rintro e w2 ⟨rfl, hB2⟩)
    go_ret2
    exact ⟨_, rfl, OutV.nil_ _ _, hBB ▸ hB0.trans (hB2.mono (by omega))⟩
end Go.Proofs.YtpppbkdbpbpinaaGreatDoor

/- Distances of words (no program in sight). -/
set_option linter.unusedVariables false
namespace Go.Proofs.YtpppbkdbpbpinaaGreatDoor
open Go.RowKit
/-- letters that differ among the first k -/
def hamK (u v : ByteArray) : Nat → Nat
  | 0 => 0
  | k + 1 => hamK u v k + if u.data.toList[k]? = v.data.toList[k]? then 0 else 1
def ham (u v : ByteArray) : Nat := hamK u v u.size
theorem hamK_le (u v : ByteArray) : ∀ k, hamK u v k ≤ k
  | 0 => Nat.le_refl _
  | k + 1 => by
    have := hamK_le u v k
    unfold hamK
    split <;> omega
theorem ham_le (u v : ByteArray) : ham u v ≤ u.size := hamK_le u v _
theorem byte_at (u : ByteArray) (k : Nat) (h : k < u.size) : u.data.toList[k]? = some u[k] := by
  rw [List.getElem?_eq_getElem (by simpa using h)]; rfl
theorem hamK_eq {u v : ByteArray} {k : Nat} (h : k < u.size) (h' : k < v.size) (e : u[k] = v[k]) : hamK u v (k + 1) = hamK u v k := by
  show hamK u v k + (if _ then 0 else 1) = _
  rw [if_pos (by rw [byte_at u k h, byte_at v k h', e])]
  rfl
theorem hamK_ne {u v : ByteArray} {k : Nat} (h : k < u.size) (h' : k < v.size) (e : u[k] ≠ v[k]) : hamK u v (k + 1) = hamK u v k + 1 := by
  show hamK u v k + (if _ then 0 else 1) = _
  rw [if_neg (by rw [byte_at u k h, byte_at v k h']; simpa using e)]
/-- distances of all pairs: what has been yielded at a place of the two loops -/
def rowP (xs : List ByteArray) (i j : Nat) : List Nat := (List.range j).map fun k => ham (xs.getD i ⟨#[]⟩) (xs.getD k ⟨#[]⟩)
def prsP (xs : List ByteArray) (i j : Nat) : List Nat := ((List.range i).flatMap fun i => rowP xs i i) ++ rowP xs i j
theorem prsP_zero (xs : List ByteArray) : prsP xs 0 0 = [] := rfl
theorem prsP_in (xs : List ByteArray) (i j : Nat) : prsP xs i (j + 1) = prsP xs i j ++ [ham (xs.getD i ⟨#[]⟩) (xs.getD j ⟨#[]⟩)] := by
  unfold prsP rowP
  rw [List.range_succ, List.map_append, List.append_assoc]
  rfl
theorem prsP_out (xs : List ByteArray) (i : Nat) : prsP xs (i + 1) 0 = prsP xs i i := by
  unfold prsP
  rw [List.range_succ, List.flatMap_append]
  simp [rowP]
def prs (xs : List ByteArray) : List Nat := prsP xs xs.length 0
theorem rowP_pre (xs : List ByteArray) (i : Nat) {j k : Nat} (h : j ≤ k) : rowP xs i j <+: rowP xs i k := by
  induction k with
  | zero => obtain rfl : j = 0 := by omega
            exact List.prefix_refl _
  | succ k ih =>
    rcases Nat.lt_or_ge j (k + 1) with hl | hg
    · refine (ih (by omega)).trans ?_
      unfold rowP
      rw [List.range_succ, List.map_append]
      exact List.prefix_append _ _
    · obtain rfl : j = k + 1 := by omega
      exact List.prefix_refl _
theorem prsP_pre1 (xs : List ByteArray) (i : Nat) {j k : Nat} (h : j ≤ k) : prsP xs i j <+: prsP xs i k :=
  (List.prefix_append_right_inj _).2 (rowP_pre xs i h)
theorem prsP_pre0 (xs : List ByteArray) {i k : Nat} (h : i ≤ k) : prsP xs i 0 <+: prsP xs k 0 := by
  induction k with
  | zero => obtain rfl : i = 0 := by omega
            exact List.prefix_refl _
  | succ k ih =>
    rcases Nat.lt_or_ge i (k + 1) with hl | hg
    · refine (ih (by omega)).trans ?_
      rw [prsP_out]
      exact prsP_pre1 xs k (Nat.zero_le _)
    · obtain rfl : i = k + 1 := by omega
      exact List.prefix_refl _
theorem prsP_pre (xs : List ByteArray) {i j : Nat} (hi : i < xs.length) (hj : j ≤ i) : prsP xs i j <+: prs xs := by
  refine (prsP_pre1 xs i hj).trans ?_
  rw [← prsP_out]
  exact prsP_pre0 xs (by omega)
/-- the least of a number and of what has been yielded -/
def minL (m : Nat) (l : List Nat) : Nat := l.foldl min m
theorem minL_sn (m : Nat) (l : List Nat) (x : Nat) : minL m (l ++ [x]) = min (minL m l) x := by unfold minL; rw [List.foldl_append]; rfl
def leastV (xs : List ByteArray) : Nat := minL (xs.getD 0 ⟨#[]⟩).size (prs xs)
/-- what is wrong with a list -/
def lsE (xs : List ByteArray) : Int := if 4096 < xs.length then 4 else if xs.all (fun s => s.size == (xs.getD 0 ⟨#[]⟩).size) then 0 else 11
def leE (xs : List ByteArray) : Int := if lsE xs ≠ 0 then lsE xs else if xs.length < 2 then 5 else 0
def leV (xs : List ByteArray) : Nat := if leE xs = 0 then leastV xs else 0
theorem lsE_big {xs : List ByteArray} (h : 4096 < xs.length) : lsE xs = 4 := by unfold lsE; rw [if_pos h]
theorem lsE_bad {xs : List ByteArray} (h : ¬ 4096 < xs.length) {k : Nat} (hk : k < xs.length) (hb : xs[k].size ≠ (xs.getD 0 ⟨#[]⟩).size) : lsE xs = 11 := by
  unfold lsE
  rw [if_neg h, if_neg]
  rw [List.all_eq_true]
  intro ha
  exact hb (by simpa using ha _ (List.getElem_mem hk))
theorem lsE_ok {xs : List ByteArray} (h : ¬ 4096 < xs.length) (ha : ∀ k (hk : k < xs.length), xs[k].size = (xs.getD 0 ⟨#[]⟩).size) : lsE xs = 0 := by
  unfold lsE
  rw [if_neg h, if_pos]
  rw [List.all_eq_true]
  intro s hs
  obtain ⟨k, hk, rfl⟩ := List.getElem_of_mem hs
  simpa using ha k hk
theorem lsE_same {xs : List ByteArray} (h : lsE xs = 0) {k : Nat} (hk : k < xs.length) : xs[k].size = (xs.getD 0 ⟨#[]⟩).size := by
  unfold lsE at h
  split at h
  · cases h
  · split at h
    · rename_i ha
      rw [List.all_eq_true] at ha
      simpa using ha _ (List.getElem_mem hk)
    · cases h
theorem lsE_len {xs : List ByteArray} (h : lsE xs = 0) : xs.length ≤ 4096 := by
  unfold lsE at h
  split at h
  · cases h
  · omega
/-- no pair before a place is at the distance -/
def NoB (xs : List ByteArray) (d i k : Nat) : Prop := ∀ i' k', i' < k' → k' < xs.length → (i' < i ∨ i' = i ∧ k' < k) → ham (xs.getD i' ⟨#[]⟩) (xs.getD k' ⟨#[]⟩) ≠ d
/-- the first pair at a distance -/
def FndB (xs : List ByteArray) (d i k : Nat) : Prop := i < k ∧ k < xs.length ∧ ham (xs.getD i ⟨#[]⟩) (xs.getD k ⟨#[]⟩) = d ∧ NoB xs d i k
theorem NoB.zero (xs : List ByteArray) (d : Nat) : NoB xs d 0 1 := fun i' k' h1 _ h2 => by omega
theorem NoB.step {xs : List ByteArray} {d i k : Nat} (h : NoB xs d i k) (hne : ham (xs.getD i ⟨#[]⟩) (xs.getD k ⟨#[]⟩) ≠ d) : NoB xs d i (k + 1) := fun i' k' h1 h2 h3 => by
  by_cases e : i' = i ∧ k' = k
  · rw [e.1, e.2]; exact hne
  · exact h i' k' h1 h2 (by omega)
theorem NoB.row {xs : List ByteArray} {d i k : Nat} (h : NoB xs d i k) (hk : xs.length ≤ k) (m : Nat) (hm : m ≤ i + 2) : NoB xs d (i + 1) m := fun i' k' h1 h2 h3 => h i' k' h1 h2 (by omega)
theorem FndB.same {xs : List ByteArray} {d i k i2 k2 : Nat} (h : FndB xs d i k) (h2 : FndB xs d i2 k2) : i = i2 ∧ k = k2 := by
  obtain ⟨a1, a2, a3, a4⟩ := h
  obtain ⟨b1, b2, b3, b4⟩ := h2
  have h1 : ¬ (i2 < i ∨ i2 = i ∧ k2 < k) := fun e => a4 i2 k2 b1 b2 e b3
  have h2 : ¬ (i < i2 ∨ i = i2 ∧ k < k2) := fun e => b4 i k a1 a2 e a3
  omega
theorem FndB.not {xs : List ByteArray} {d i k m : Nat} (h : FndB xs d i k) (h2 : NoB xs d xs.length m) : False := by
  obtain ⟨a1, a2, a3, a4⟩ := h
  exact h2 i k a1 a2 (by omega) a3
end Go.Proofs.YtpppbkdbpbpinaaGreatDoor
