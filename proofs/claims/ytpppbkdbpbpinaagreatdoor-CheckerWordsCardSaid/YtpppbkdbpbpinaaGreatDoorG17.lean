import Derived.Test.YtpppbkdbpbpinaaGreatDoorG16
import Derived.Deep.LoopGhost
set_option linter.unusedSimpArgs false
set_option linter.unusedVariables false
/- reset.search: its contract. -/
set_option linter.unusedVariables false
namespace Go.Proofs.YtpppbkdbpbpinaaGreatDoor
open Go.RowKit Go.Maps
def mkQ (x : Nat × ByteArray) (l : List (Nat × Nat)) : List (Nat × ByteArray) := l.map fun p => (p.2, x.2 ++ ltr p.1)
theorem mkQ_snoc (x : Nat × ByteArray) (l : List (Nat × Nat)) (k y : Nat) : mkQ x (l ++ [(k, y)]) = mkQ x l ++ [(y, x.2 ++ ltr k)] := by simp [mkQ]
theorem growK_fr {rows : List (List Int)} {x : Nat × ByteArray} {l : List (Nat × ByteArray)} : ∀ c, growK rows x l c = l ++ mkQ x (frK rows x.1 (fsN l) c) ∧ fsN (growK rows x l c) = fsN l ++ snd (frK rows x.1 (fsN l) c)
  | 0 => ⟨by simp [growK, frK, mkQ], by simp [growK, frK, snd]⟩
  | c + 1 => by
    obtain ⟨h1, h2⟩ := growK_fr (rows := rows) (x := x) (l := l) c
    by_cases hm : img rows x.1 c ∈ fsN (growK rows x l c)
    · rw [growK_yes hm, frK_yes (by rw [h2] at hm; exact hm)]
      exact ⟨h1, h2⟩
    · rw [growK_no hm, frK_no (by rw [h2] at hm; exact hm), mkQ_snoc, ← List.append_assoc, ← h1, fsN_snoc, h2]
      exact ⟨rfl, by simp [snd]⟩
theorem growK_drop {rows : List (List Int)} {l : List (Nat × ByteArray)} {i L : Nat} (hi : i < l.length) (x : Nat × ByteArray) : (growK rows x l L).drop (i + 1) = l.drop (i + 1) ++ mkQ x (frK rows x.1 (fsN l) L) := by
  rw [(growK_fr L).1, List.drop_append_of_le_length (by omega)]
set_option maxRecDepth 100000 in
set_option maxHeartbeats 4000000 in
theorem zsearch_any (rows : List (List Int)) (L S : Nat) (A : Option Addr) (cc : Nat) (w : World) (hA : Aut rows L) (hS : S < 2 ^ rows.length) (hR : RowD w A rows) (hT : TabZ w) :
    Calls Tryz.prog 50 #[.agg #[.int .i64 L, .slice A rows.length cc], .int .i64 S] w fun e w' => e = .returned (firstR (first rows L S)) ∧ Below w.heap.size w w' := by
  have hB0 : Below w.heap.size w (w.alloc (Obj.cells #[.int .i64 L, .slice A rows.length cc] 24)) := (Below.refl _ w).alloc (Nat.le_refl _) _
  have HR := hide (hR.below hB0)
  have HT := hide (hT.below hB0)
  obtain ⟨B, hBB⟩ : ∃ B, w.heap.size = B := ⟨_, rfl⟩
  have hbx : BoxA (w.alloc (Obj.cells #[.int .i64 L, .slice A rows.length cc] 24)) B L A rows.length cc := by rw [← hBB]; exact heap_alloc_new w _
  have hsz : (w.alloc (Obj.cells #[.int .i64 L, .slice A rows.length cc] 24)).heap.size = B + 1 := by rw [← hBB]; simp
  have HA := hide hA
  have HG := hide (GoodL.one (rows := rows) hS)
  have hl3 := hA.l3
  have HF := hide (show first rows L S = bfs rows L (65 - 0) 0 [(S, ⟨#[]⟩)] from rfl)
  have hS64 := Nat.lt_of_lt_of_le hS hA.pow
  generalize first rows L S = R at HF ⊢
  have hmm := @run_makeMap Tryz.prog
  clear hA hR hT hS
  go_enter Tryz.func50, Tryz.ntmps50
  go_wp2_with fail
  generalize w.alloc (Obj.cells #[.int .i64 L, .slice A rows.length cc] 24) = W1 at hB0 HR HT hbx hsz ⊢
  have lB : B < W1.heap.size := by omega
  have hm0 : SeenV ((W1.alloc (Obj.cells #[Value.int IntKind.i64 (S : Int), Value.string ⟨#[]⟩] 148)).alloc (Obj.map #[] 0)) (B + 1 + 1) [] := SeenV.made_ (by simp [hsz])
  have hv0 : QueV ((W1.alloc (Obj.cells #[Value.int IntKind.i64 (S : Int), Value.string ⟨#[]⟩] 148)).alloc (Obj.map #[] 0)) (B + 1) (B + 1) (.slice (some ⟨B + 1, 0, none⟩) 1 1) [(S, ⟨#[]⟩)] := (QueV.one_ hsz (Nat.le_refl _) S _).alloc _
  obtain ⟨W2, hrun, hm2, hg2⟩ := hm0.store (by simp) S (by omega)
  have hv2 := hv0.kept hg2 (Ne.symm (que_ne_map hv0 hm0))
  have hB2 : Below (B + 1) W1 W2 := (((Below.refl (B + 1) W1).alloc (by omega) _).alloc (by simp; omega) _).grown hg2 (by simp; omega) (fun j e => by cases e; omega)
  obtain ⟨Q, hQQ⟩ : ∃ Q, W2.heap.size = Q := ⟨_, rfl⟩
  have hBQ : B + 1 ≤ Q := by have := hB2.size; omega
  have hQ3 : VarQ (W2.alloc (Obj.cells #[.slice (some ⟨B + 1, 0, none⟩) 1 1] 149)) Q (.slice (some ⟨B + 1, 0, none⟩) 1 1) := by rw [← hQQ]; exact heap_alloc_new W2 _
  have hm3 := hm2.alloc (Obj.cells #[.slice (some ⟨B + 1, 0, none⟩) 1 1] 149)
  have hv3 := hv2.alloc (Obj.cells #[.slice (some ⟨B + 1, 0, none⟩) 1 1] 149)
  have hB4 : Below (B + 1) W1 (W2.alloc (Obj.cells #[.slice (some ⟨B + 1, 0, none⟩) 1 1] 149)) := hB2.alloc (by omega) _
  rw [hrun]
  clear hrun hmm hm0 hv0 hg2 hv2 hB2 hS64 hm2
  have HB4 := hide hB4
  have HM4 := hide hm3
  have HV4 := hide hv3
  have HQ4 := hide hQ3
  clear hB4 hm3 hv3 hQ3
  go_wp2
  go_loopg [8] 66 (fun gk xv wr => ∃ (i : Nat) (l : List (Nat × ByteArray)) (g : Nat) (v : Value), gk = 66 - i ∧ i ≤ l.length ∧ Hid (GoodL rows l) ∧ Hid (R = bfs rows L (65 - i) i l) ∧ VarQ wr Q v ∧ QueV wr (B + 1) g v (l.drop i) ∧ SeenV wr (B + 1 + 1) (fsN l) ∧ Below (B + 1) W1 wr)
  case atStart => exact ⟨0, _, B + 1, _, rfl, Nat.zero_le _, HG, HF, HQ4.out, HV4.out, HM4.out, HB4.out⟩
  case round =>
    obtain ⟨i, l, g, v, hgk, hi, HGl, HFl, hQ, hV, hM, hB⟩ := hrel
    clear HB4 HM4 HV4 HQ4 HG HF
    have hl64 := HGl.out.len HA.out
    have hBs := hB.size
    by_cases hlt : i < l.length
    · have HZ := HGl.out.sz i hlt
      have hx64 : l[i].1 < 64 := Nat.lt_of_lt_of_le (HGl.out.lt _ (List.getElem_mem hlt)) HA.out.pow
      have HXN := hide (HGl.out.lt _ (List.getElem_mem hlt))
      have HX := hide (fun W => zsingle_any l[i].1 W hx64)
      have HH := hide (fun h => bfs_hit (rows := rows) (L := L) hlt hl64 h)
      have HS := hide (fun h => bfs_step (rows := rows) (L := L) hlt hl64 h)
      have HGr := hide (HGl.out.grow HA.out hlt L (Nat.le_refl _))
      have HGe := hide (growK_get (rows := rows) (x := l[i]) hlt L)
      have HGd := hide (growK_drop (rows := rows) (L := L) hlt l[i])
      have HGf := hide (growK_fr (rows := rows) (x := l[i]) (l := l) L)
      rw [List.drop_eq_getElem_cons hlt] at hV
      have hdl : (l.drop (i + 1)).length = l.length - (i + 1) := List.length_drop ..
      obtain ⟨x, hx⟩ : ∃ x, l[i] = x := ⟨_, rfl⟩
      obtain ⟨t, ht⟩ : ∃ t, l.drop (i + 1) = t := ⟨_, rfl⟩
      rw [hx, ht] at hV
      rw [hx] at HZ hx64 HXN HX HH HS HGr HGd HGf HGe
      rw [ht] at HGd hdl
      have hgQ := que_ne_var hV hQ
      have hgM := que_ne_map hV hM
      obtain ⟨o, cap, rfl, ch0, ch1, hc1, hc2, hpop⟩ := hV.head
      have cQ := hQ.cell
      obtain ⟨X, hXX⟩ : ∃ X, wr.heap.size = X := ⟨_, rfl⟩
      have hX1 : BoxF (wr.alloc (Obj.cells #[.int .i64 x.1, .string x.2] 148)) X x := by rw [← hXX]; exact heap_alloc_new wr _
      have hQ1 : VarQ (wr.alloc (Obj.cells #[.int .i64 x.1, .string x.2] 148)) Q (.slice (some ⟨g, o, none⟩) (t.length + 1) cap) := by unfold VarQ; rw [heap_alloc_old wr _ hQ.lt]; exact hQ
      have cQ1 := hQ1.cell
      have fQ1 := hQ1.free_
      have hp1 : (0 : Int) < (t.length : Int) + 1 := by omega
      have hp2 : (1 : Int) ≤ (t.length : Int) + 1 := by omega
      have hp3 : ((t.length : Int) + 1).toNat = t.length + 1 := by omega
      have hXQ := box_ne_var hX1 hQ1
      have hX2 : ∀ u, BoxF ((wr.alloc (Obj.cells #[.int .i64 x.1, .string x.2] 148)).setCell ⟨Q, 0, none⟩ u) X x := fun u => (Below.heap_setCell _ ⟨Q, 0, none⟩ u X hXQ).trans hX1
      have cX0 := fun u => (hX2 u).c0
      have cX1 := fun u => (hX2 u).c1
      have HX2 := hide hX2
      have HQ2 := hide hQ1
      have hM2 := fun u => (hM.alloc (Obj.cells #[.int .i64 x.1, .string x.2] 148)).setCell (a := ⟨Q, 0, none⟩) (var_ne_map hQ1 (hM.alloc _)) u
      have HM2 := hide hM2
      have hB2 : ∀ u, Below (B + 1) W1 ((wr.alloc (Obj.cells #[.int .i64 x.1, .string x.2] 148)).setCell ⟨Q, 0, none⟩ u) := fun u => Below.setCell (hB.alloc (by omega) _) (by exact hBQ) u
      have HB2 := hide hB2
      obtain ⟨o2, c2, hpop2, hif⟩ : ∃ o2 c2, QueV wr (B + 1) g (.slice (some ⟨g, o2, none⟩) t.length c2) t ∧ ((cap = 1 ∧ o2 = o ∧ c2 = 0) ∨ (cap ≠ 1 ∧ o2 = o + 2 ∧ c2 = cap - 1)) := by
        by_cases hc : cap = 1
        · rw [if_pos hc] at hpop
          exact ⟨o, 0, by rw [hc] at hpop; exact hpop, .inl ⟨hc, rfl, rfl⟩⟩
        · rw [if_neg hc] at hpop
          exact ⟨o + 2, cap - 1, hpop, .inr ⟨hc, rfl, rfl⟩⟩
      have hV2 := (hpop2.alloc (Obj.cells #[.int .i64 x.1, .string x.2] 148)).setCell (a := ⟨Q, 0, none⟩) (fun e => hgQ e.symm) (.slice (some ⟨g, o2, none⟩) t.length c2)
      have hgX : g ≠ X := by have := hpop2.lt; omega
      have HL := hide hdl
      clear hx ht hV hX1 hX2 hM2 hB2 hpop hpop2 hQ1 hdl
      rcases hif with ⟨hc, ho, hc2'⟩ | ⟨hc, ho, hc2'⟩
      subst ho hc2'
      subst hc
      obtain rfl : t = [] := List.eq_nil_of_length_eq_zero (by omega)
      have hX5 := HX2.out (.slice (some ⟨g, o2, none⟩) 0 0)
      have hQ5 := HQ2.out.set_ (.slice (some ⟨g, o2, none⟩) 0 0)
      have hM5 := HM2.out (.slice (some ⟨g, o2, none⟩) 0 0)
      have hB5 := HB2.out (.slice (some ⟨g, o2, none⟩) 0 0)
      have H5 := hide (And.intro hX5 (And.intro hQ5 (And.intro hM5 (And.intro hB5 hV2))))
      clear hX5 hQ5 hM5 hB5 hV2
      go_wp2_with fail
      obtain ⟨hX5, hQ5, hM5, hB5, hV5⟩ := H5.out
      replace hV5 : QueV ((wr.alloc (Obj.cells #[.int .i64 x.1, .string x.2] 148)).setCell ⟨Q, 0, none⟩ (.slice (some ⟨g, o2, none⟩) 0 0)) (B + 1) g (.slice (some ⟨g, o2, none⟩) 0 0) [] := hV5
      clear H5 HX2 HQ2 HM2 HB2
      generalize (wr.alloc (Obj.cells #[.int .i64 x.1, .string x.2] 148)).setCell ⟨Q, 0, none⟩ (.slice (some ⟨g, o2, none⟩) 0 0) = W5 at hX5 hQ5 hM5 hB5 hV5 ⊢
      generalize Value.slice (some ⟨g, o2, none⟩) 0 0 = pv at hQ5 hV5 ⊢
      generalize ([] : List (Nat × ByteArray)) = t at hV5 HGd HL
      rotate_left
      subst ho hc2'
      have hX5 := HX2.out (.slice (some ⟨g, o + 2, none⟩) t.length (cap - 1))
      have hQ5 := HQ2.out.set_ (.slice (some ⟨g, o + 2, none⟩) t.length (cap - 1))
      have hM5 := HM2.out (.slice (some ⟨g, o + 2, none⟩) t.length (cap - 1))
      have hB5 := HB2.out (.slice (some ⟨g, o + 2, none⟩) t.length (cap - 1))
      have H5 := hide (And.intro hX5 (And.intro hQ5 (And.intro hM5 (And.intro hB5 hV2))))
      clear hX5 hQ5 hM5 hB5 hV2
      go_wp2_with fail
      obtain ⟨hX5, hQ5, hM5, hB5, hV5⟩ := H5.out
      clear H5 HX2 HQ2 HM2 HB2
      generalize (wr.alloc (Obj.cells #[.int .i64 x.1, .string x.2] 148)).setCell ⟨Q, 0, none⟩ (.slice (some ⟨g, o + 2, none⟩) t.length (cap - 1)) = W5 at hX5 hQ5 hM5 hB5 hV5 ⊢
      generalize Value.slice (some ⟨g, o + 2, none⟩) t.length (cap - 1) = pv at hQ5 hV5 ⊢
      rotate_left
      all_goals (
        have hbx5 : BoxA W5 B L A rows.length cc := (hB5.block B (Nat.lt_succ_self B)).trans hbx
        have m0 := hbx5.c0
        have m1 := hbx5.c1
        have cX0 := hX5.c0
        have cX1 := hX5.c1
        cases hs : sglB x.1 with
        | true =>
          rw [hs] at HX
          have HE := hide (HFl.out.trans (HH.out hs))
          clear hs
          go_wp2_with (go_at_call 116; refine (HX.out _).mono ?_; rintro e w' ⟨rfl, rfl⟩)
          go_ret2
          exact ⟨by rw [HE.out]; rfl, hBB ▸ hB0.trans (hB5.mono (by omega))⟩
        | false =>
          rw [hs] at HX
          have HE := hide (HFl.out.trans (HS.out hs))
          have HFR := hide (zfresh_any rows L x.1 A cc (B + 1 + 1) (B + 1) Q X (fsN l) (fun W lst => ∃ g' v', VarQ W Q v' ∧ BoxF W X x ∧ QueV W (B + 1) g' v' (t ++ mkQ x lst) ∧ g' ≠ X) W5 HA.out HXN.out
            (fun W hW => ⟨HR.out.below ((hB5.trans hW).mono (Nat.le_of_eq hsz)), HT.out.below ((hB5.trans hW).mono (Nat.le_of_eq hsz))⟩)
            (by omega) (by have := hB5.size; omega) hM5 ⟨g, _, hQ5, hX5, by simpa [mkQ] using hV5, hgX⟩ (by rw [fsN_len]; omega)
            (by
              rintro W W' lst ⟨g', v', a, b, c, d⟩ hb
              exact ⟨g', v', (hb.block Q a.lt).trans a, (hb.block X b.lt).trans b, c.below hb (Nat.le_refl _), d⟩)
            (by
              rintro W W' lst T hT ⟨g', v', a, b, c, d⟩ hg
              exact ⟨g', v', (hg.block Q a.lt (fun e => var_ne_map a hT (by cases e; rfl))).trans a, (hg.block X b.lt (box_ne_map b hT)).trans b, c.kept hg (Ne.symm (que_ne_map c hT)), d⟩)
            (by
              rintro W lst k y ⟨g', v', a, b, c, d⟩ hkL hlk hy
              have hln : (mkQ x lst).length = lst.length := by simp [mkQ]
              refine (zsearchf_any k y x (t ++ mkQ x lst) (B + 1) g' Q X v' W (by omega) (by omega) (by rw [List.length_append, hln]; have := HL.out; omega) a b c d (by have := c.lt; have := c.ge; omega) hBQ).mono ?_
              rintro e W' ⟨rfl, ⟨g2, v2, a2, b2, c2, d2⟩, h1, h2, h3⟩
              exact ⟨rfl, ⟨g2, v2, a2, b2, by rw [mkQ_snoc, ← List.append_assoc]; exact c2, d2⟩, h1 _, h2, h3⟩))
          clear hs HH HS
          go_wp2_with (first
            | (go_at_call 116; refine (HX.out _).mono ?_; rintro e w' ⟨rfl, rfl⟩)
            | (go_at_call 52; refine HFR.out.mono ?_; rintro e W6 ⟨rfl, ⟨g6, v6, hQ6, hX6, hV6, hgX6⟩, hM6, hB6⟩))
          go_roundg (66 - (i + 1))
          case measure => omega
          case rel => exact ⟨i + 1, growK rows x l L, g6, v6, rfl, by obtain ⟨h, _⟩ := HGe.out; omega, hide HGr.out, HE, hQ6, by rw [HGd.out]; exact hV6, by rw [HGf.out.2]; exact hM6, hB5.trans hB6⟩)
    · obtain rfl : i = l.length := by omega
      have hE : R = (⟨#[]⟩, false) := HFl.out.trans (bfs_end (Nat.le_refl _) hl64)
      replace hE := hide hE
      rw [List.drop_length] at hV
      have cQ := hQ.cell
      obtain ⟨o, cap, cur, rfl, _⟩ := hV
      go_wp2
      go_ret2
      exact ⟨by rw [hE.out]; rfl, hBB ▸ hB0.trans (hB.mono (by omega))⟩
end Go.Proofs.YtpppbkdbpbpinaaGreatDoor
