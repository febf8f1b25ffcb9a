import Derived.Test.YtpppbkdbpbpinaaGreatDoorG14
import Derived.StillTailTactics
import Derived.Deep.RegionLaw
set_option linter.unusedSimpArgs false
set_option linter.unusedVariables false
/- grooveref44.first: the search for a word that leads from a set to one state. -/
set_option linter.unusedVariables false
namespace Go.Proofs.YtpppbkdbpbpinaaGreatDoor
open Go.RowKit Go.Maps
theorem strRow_int {w : World} {B B' : Nat} {u v : Value} {xs : List ByteArray} {zs : List Int} (h : Strs w B u xs) (h' : Ints w B' v zs) : u.ownBlock = none ∨ u.ownBlock ≠ v.ownBlock := row_ne_row (by decide) h h'
theorem intRow_str {w : World} {B B' : Nat} {u v : Value} {xs : List ByteArray} {zs : List Int} (h : Strs w B u xs) (h' : Ints w B' v zs) : v.ownBlock = none ∨ v.ownBlock ≠ u.ownBlock := row_ne_row (by decide) h' h
theorem ints_map {w : World} {B M : Nat} {v : Value} {zs : List Int} {S : List Nat} (h : Ints w B v zs) (hm : SeenV w M S) : v.ownBlock = none ∨ v.ownBlock ≠ some M := .inr fun e => row_ne_map h hm e.symm
theorem strs_map {w : World} {B M : Nat} {v : Value} {zs : List ByteArray} {S : List Nat} (h : Strs w B v zs) (hm : SeenV w M S) : v.ownBlock = none ∨ v.ownBlock ≠ some M := .inr fun e => row_ne_map h hm e.symm
theorem Ints.below {w w' : World} {B C : Nat} {v : Value} {zs : List Int} (h : Ints w B v zs) (hb : Below C w w') (hc : w.heap.size ≤ C) : Ints w' B v zs := by
  refine ⟨h.1, ?_⟩
  rcases h.2 with hn | ⟨g, cap, cur, rfl, hbg, hg, rest⟩
  · exact .inl hn
  · exact .inr ⟨g, cap, cur, rfl, hbg, (hb.block g (Nat.lt_of_lt_of_le (Array.getElem?_eq_some_iff.1 hg).1 hc)).trans hg, rest⟩
theorem Strs.below {w w' : World} {B C : Nat} {v : Value} {zs : List ByteArray} (h : Strs w B v zs) (hb : Below C w w') (hc : w.heap.size ≤ C) : Strs w' B v zs := by
  refine ⟨h.1, ?_⟩
  rcases h.2 with hn | ⟨g, cap, cur, rfl, hbg, hg, rest⟩
  · exact .inl hn
  · exact .inr ⟨g, cap, cur, rfl, hbg, (hb.block g (Nat.lt_of_lt_of_le (Array.getElem?_eq_some_iff.1 hg).1 hc)).trans hg, rest⟩
theorem SeenV.belowL {w w' : World} {C M : Nat} {S : List Nat} (h : SeenV w M S) (hb : Below C w w') (hc : w.heap.size ≤ C) : SeenV w' M S := h.below hb (Nat.lt_of_lt_of_le h.lt hc)
theorem letsCut (k : Nat) (h : k < 16) : (⟨#[48, 49, 50, 51, 52, 53, 54, 55, 56, 57, 97, 98, 99, 100, 101, 102]⟩ : ByteArray).extract k (k + 1) = ltr k := rfl
def firstR (r : ByteArray × Bool) : Value := .tuple #[.string r.1, .bool r.2]
set_option maxRecDepth 100000 in
set_option maxHeartbeats 4000000 in
theorem zfirst_any (rows : List (List Int)) (L S : Nat) (A : Option Addr) (cc : Nat) (w : World) (hA : Aut rows L) (hS : S < 2 ^ rows.length) (hR : RowD w A rows) :
    Calls Tryz.prog 56 #[.agg #[.int .i64 L, .slice A rows.length cc], .int .i64 S] w fun e w' => e = .returned (firstR (first rows L S)) ∧ Below w.heap.size w w' := by
  have hB0 : Below w.heap.size w (w.alloc (Obj.cells #[.int .i64 L, .slice A rows.length cc] 24)) := (Below.refl _ w).alloc (Nat.le_refl _) _
  have HR := hide (hR.below hB0)
  obtain ⟨B, hBB⟩ : ∃ B, w.heap.size = B := ⟨_, rfl⟩
  have k0 : (w.alloc (Obj.cells #[.int .i64 L, .slice A rows.length cc] 24)).cell? ⟨B, 0, none⟩ = some (.int .i64 L) := by
    rw [cell_of_row _ B 0 _ _ _ (by rw [← hBB]; exact heap_alloc_new w _)]; rfl
  have k1 : (w.alloc (Obj.cells #[.int .i64 L, .slice A rows.length cc] 24)).cell? ⟨B, 1, none⟩ = some (.slice A rows.length cc) := by
    rw [cell_of_row _ B 1 _ _ _ (by rw [← hBB]; exact heap_alloc_new w _)]; rfl
  have hsz : (w.alloc (Obj.cells #[.int .i64 L, .slice A rows.length cc] 24)).heap.size = B + 1 := by rw [← hBB]; simp
  have HA := hide hA
  have HG := hide (GoodL.one (rows := rows) hS)
  have hl3 := hA.l3
  have HF := hide (show first rows L S = bfs rows L (65 - 0) 0 [(S, ⟨#[]⟩)] from rfl)
  have hS64 := Nat.lt_of_lt_of_le hS hA.pow
  generalize first rows L S = R at HF ⊢
  have hmm := @run_makeMap Tryz.prog
  clear hA hR hS
  go_enter Tryz.func56, Tryz.ntmps56
  go_wp2_with fail
  generalize w.alloc (Obj.cells #[.int .i64 L, .slice A rows.length cc] 24) = W1 at hB0 HR k0 k1 hsz ⊢
  have lB : B < W1.heap.size := by omega
  have hm0 : SeenV (((W1.alloc (Obj.cells #[Value.int IntKind.i64 (S : Int)] 3)).alloc (Obj.cells #[Value.string ⟨#[]⟩] 9)).alloc (Obj.map #[] 0)) (B + 1 + 1 + 1) [] := SeenV.made_ (by simp [hsz])
  have hi0 : Ints (((W1.alloc (Obj.cells #[Value.int IntKind.i64 (S : Int)] 3)).alloc (Obj.cells #[Value.string ⟨#[]⟩] 9)).alloc (Obj.map #[] 0)) (B + 1) (.slice (some ⟨B + 1, 0, none⟩) 1 1) [(S : Int)] := ((Ints.one_ hsz (Nat.le_refl _) _).alloc _).alloc _
  have hs0 : Strs (((W1.alloc (Obj.cells #[Value.int IntKind.i64 (S : Int)] 3)).alloc (Obj.cells #[Value.string ⟨#[]⟩] 9)).alloc (Obj.map #[] 0)) (B + 1) (.slice (some ⟨B + 1 + 1, 0, none⟩) 1 1) [⟨#[]⟩] := (Strs.one_ (by simp [hsz]) (by omega) _).alloc _
  obtain ⟨W2, hrun, hm2, hg2⟩ := hm0.store (by simp) S (by omega)
  have hi2 : Ints W2 (B + 1) (.slice (some ⟨B + 1, 0, none⟩) 1 1) (fsI [(S, ⟨#[]⟩)]) := World.ownsRow.kept hi0 hg2 (ints_map hi0 hm0)
  have hs2 : Strs W2 (B + 1) (.slice (some ⟨B + 1 + 1, 0, none⟩) 1 1) (wsB [(S, ⟨#[]⟩)]) := World.ownsRow.kept hs0 hg2 (strs_map hs0 hm0)
  have hB2 : Below (B + 1) W1 W2 := (((Below.refl (B + 1) W1).alloc (by omega) _).alloc (by simp; omega) _ |>.alloc (by simp; omega) _).grown hg2 (by simp; omega) (fun j e => by cases e; omega)
  clear hm0 hi0 hs0 hg2 hS64
  rw [hrun]
  clear hrun hmm
  go_wp2
  go_loopw [6, 7, 9] (fun sv wv iv wr => ∃ (i : Nat) (l : List (Nat × ByteArray)), iv = .int .i64 i ∧ i ≤ l.length ∧ Hid (GoodL rows l) ∧ Hid (R = bfs rows L (65 - i) i l) ∧ Ints wr (B + 1) sv (fsI l) ∧ Strs wr (B + 1) wv (wsB l) ∧ SeenV wr (B + 1 + 1 + 1) (fsN l) ∧ Below (B + 1) W1 wr) (fun _ _ iv _ => 64 - (intOf iv).toNat)
  case atStart => exact ⟨0, _, rfl, Nat.zero_le _, HG, HF, hi2, hs2, hm2, hB2⟩
  case round =>
    obtain ⟨i, l, rfl, hi, HGl, HFl, hI, hW, hM, hB⟩ := hrel
    clear hi2 hs2 hm2 hB2 HG HF
    have hl64 := HGl.out.len HA.out
    have hLi := fsI_len l
    have hLw := wsB_len l
    by_cases hlt : i < l.length
    · obtain ⟨g, cap, hsv, hg1, hg2⟩ := hI.form (by omega)
      obtain ⟨g', cap', hwv, hg1', hg2'⟩ := hW.form (by omega)
      subst hsv hwv
      have hci := hI.cell (k := i) (by omega)
      have hcw := hW.cell (k := i) (by omega)
      rw [fsI_get l i hlt] at hci
      rw [wsB_get l i hlt] at hcw
      have hx64 : l[i].1 < 64 := Nat.lt_of_lt_of_le (HGl.out.lt _ (List.getElem_mem hlt)) HA.out.pow
      have hxn : l[i].1 < 2 ^ rows.length := HGl.out.lt _ (List.getElem_mem hlt)
      have HZ := HGl.out.sz i hlt
      have HX := hide (fun W => zrsingle_any l[i].1 W hx64)
      have HH := hide (fun h => bfs_hit (rows := rows) (L := L) hlt hl64 h)
      have HS := hide (fun h => bfs_step (rows := rows) (L := L) hlt hl64 h)
      have HGr := hide (HGl.out.grow HA.out hlt)
      have HGe := hide (growK_get (rows := rows) (x := l[i]) hlt)
      obtain ⟨x, hx⟩ : ∃ x, l[i] = x := ⟨_, rfl⟩
      rw [hx] at hci hcw hx64 hxn HZ HX HH HS HGr HGe
      have i0 : (0 : Int) ≤ (i : Int) := by omega
      have i1 : (i : Int) < ((fsI l).length : Int) := by omega
      have i2 : (i : Int) < ((wsB l).length : Int) := by omega
      have hI2 : Ints wr (B + 1) (.slice (some ⟨g, 0, none⟩) l.length cap) (fsI (growK rows x l 0)) := by rw [← hLi]; exact hI
      have hW2 : Strs wr (B + 1) (.slice (some ⟨g', 0, none⟩) l.length cap') (wsB (growK rows x l 0)) := by rw [← hLw]; exact hW
      clear hx
      cases hs : sglB x.1 with
      | true =>
        rw [hs] at HX
        have HE := HFl.out.trans (HH.out hs)
        replace HE := hide HE
        clear hs
        go_wp2_with (go_at_call 121; refine (HX.out _).mono ?_; rintro e w' ⟨rfl, rfl⟩)
        go_ret2
        exact ⟨by rw [HE.out]; rfl, hBB ▸ hB0.trans (hB.mono (by omega))⟩
      | false =>
        rw [hs] at HX
        have HE := hide (HFl.out.trans (HS.out hs))
        clear hs HH HS HFl
        go_wp2_with (go_at_call 121; refine (HX.out _).mono ?_; rintro e w' ⟨rfl, rfl⟩)
        go_loopw [6, 7, 10] (fun sv wv kv wr => ∃ (k : Nat), kv = .int .i64 k ∧ k ≤ L ∧ Ints wr (B + 1) sv (fsI (growK rows x l k)) ∧ Strs wr (B + 1) wv (wsB (growK rows x l k)) ∧ SeenV wr (B + 1 + 1 + 1) (fsN (growK rows x l k)) ∧ Below (B + 1) W1 wr) (fun _ _ kv _ => L - (intOf kv).toNat)
        case atStart => exact ⟨0, rfl, Nat.zero_le _, hI2, hW2, hM, hB⟩
        case round =>
          obtain ⟨k, rfl, hk, hI, hW, hM, hB⟩ := hrel
          clear hci hcw hg1 hg2 hg1' hg2' hLi hLw i1 i2 hI2 hW2
          have m0 : wr.cell? ⟨B, 0, none⟩ = some (.int .i64 L) := (hB.cell (p := ⟨B, 0, none⟩) (Nat.lt_succ_self B)).trans k0
          have m1 : wr.cell? ⟨B, 1, none⟩ = some (.slice A rows.length cc) := (hB.cell (p := ⟨B, 1, none⟩) (Nat.lt_succ_self B)).trans k1
          by_cases hkl : k < L
          · obtain ⟨hiG, hGi⟩ := HGe.out k
            have hG64 := (HGr.out k hk).len HA.out
            have hLi := fsI_len (growK rows x l k)
            have hLw := wsB_len (growK rows x l k)
            have hLn := fsN_len (growK rows x l k)
            obtain ⟨g, cap, hsv, hg1, hg2⟩ := hI.form (by omega)
            obtain ⟨g', cap', hwv, hg1', hg2'⟩ := hW.form (by omega)
            subst hsv hwv
            have hci := hI.cell (k := i) (by omega)
            have hcw := hW.cell (k := i) (by omega)
            rw [fsI_get _ i hiG, hGi] at hci
            rw [wsB_get _ i hiG, hGi] at hcw
            have hgY := hide (growK_yes (rows := rows) (x := x) (l := l) (c := k))
            have hgN := hide (growK_no (rows := rows) (x := x) (l := l) (c := k))
            have hG1 := hide (HGr.out (k + 1) hkl)
            have hG1L : (growK rows x l (k + 1)).length ≤ 64 := hG1.out.len HA.out
            obtain ⟨y, hy⟩ : ∃ y, img rows x.1 k = y := ⟨_, rfl⟩
            have hy64 : y < 64 := by rw [← hy]; exact Nat.lt_of_lt_of_le (HA.out.img_lt hkl _) HA.out.pow
            have HIM : Hid (∀ W, Below (B + 1) W1 W → Calls Tryz.prog 58 #[.agg #[.int .i64 L, .slice A rows.length cc], .int .i64 x.1, .int .i64 k] W fun e w' => e = .returned (.int .i64 (y : Int)) ∧ Below W.heap.size W w') :=
              hide fun W hW => by rw [← hy]; exact zimage_any rows L x.1 k A cc W HA.out hkl hx64 (HR.out.below (hW.mono (Nat.le_of_eq hsz)))
            rw [hy] at hgY hgN
            have HXW := hide (show ∀ h, (wsB (growK rows x l k))[i]'h = x.2 from fun h => by rw [wsB_get _ i hiG, hGi])
            generalize growK rows x l k = G at hI hW hM hiG hGi hG64 hLi hLw hLn hgY hgN HXW
            have i1 : (i : Int) < ((fsI G).length : Int) := by omega
            have i2 : (i : Int) < ((wsB G).length : Int) := by omega
            have hI0 := hI
            have hW0 := hW
            have hM0 := hM
            have hB1 : Below (B + 1) W1 wr.drew := hB.drew
            have hBd : Below wr.heap.size wr wr.drew := (Below.refl _ wr).drew
            clear hy hGi
            go_wp2_with fail
            replace m0 : wr.drew.cell? ⟨B, 0, none⟩ = some (.int .i64 L) := m0
            replace m1 : wr.drew.cell? ⟨B, 1, none⟩ = some (.slice A rows.length cc) := m1
            replace hci : wr.drew.cell? ⟨g, i, none⟩ = some (.int .i64 x.1) := hci
            go_region_held3 (fun W => W.cell? ⟨B, 0, none⟩ = some (.int .i64 L) ∧ W.cell? ⟨B, 1, none⟩ = some (.slice A rows.length cc) ∧ W.cell? ⟨g, i, none⟩ = some (.int .i64 x.1))
              (first | with_reducible exact ⟨m0, m1, hci⟩)
              ((go_at_call 58; refine (HIM.out _ hB1).mono ?_; rintro e w3 ⟨rfl, hB3⟩; replace hBd := hBd.trans (hB3.mono (hBd.size)); replace m0 := (hB3.cell (p := ⟨B, 0, none⟩) (World.block_lt_of_cell? _ _ m0)).trans m0; replace m1 := (hB3.cell (p := ⟨B, 1, none⟩) (World.block_lt_of_cell? _ _ m1)).trans m1; replace hci := (hB3.cell (p := ⟨g, i, none⟩) (World.block_lt_of_cell? _ _ hci)).trans hci))
            have hI3 : Ints w3 (B + 1) (.slice (some ⟨g, 0, none⟩) G.length cap) (fsI G) := by rw [← hLi]; exact hI.below hBd (Nat.le_refl _)
            have hW3 : Strs w3 (B + 1) (.slice (some ⟨g', 0, none⟩) G.length cap') (wsB G) := by rw [← hLw]; exact hW.below hBd (Nat.le_refl _)
            have hM3 := hM.belowL hBd (Nat.le_refl _)
            have hlook := hM3.look y (by omega)
            have hB3' : Below (B + 1) W1 w3 := hB.trans (hBd.mono (by have := hB.size; omega))
            have hcw3 := (hBd.cell (p := ⟨g', i, none⟩) hg2').trans hcw
            have hx : x.2.size ≤ 64 := by omega
            clear hI hW hM hI0 hW0 hM0 hB hBd hB1 hB3 m0 m1 hci hcw hg1 hg2 hg1' hg2'
            by_cases hm : y ∈ fsN G
            · rw [decide_eq_true hm] at hlook
              replace hm := hide hm
              go_wp2
              go_roundw
              case rel => exact ⟨k + 1, by go_num, hkl, by rw [hgY.out hm.out]; exact hI3, by rw [hgY.out hm.out]; exact hW3, by rw [hgY.out hm.out]; exact hM3, hB3'⟩
              case measure => simp [intOf]; omega
            · rw [decide_eq_false hm] at hlook
              replace hm := hide hm
              have hG1e := hgN.out hm.out
              rw [hG1e, List.length_append] at hG1L
              obtain ⟨w4, hrun, hM4, hg4⟩ := hM3.store (by omega) y (by omega)
              have hI4 : Ints w4 (B + 1) (.slice (some ⟨g, 0, none⟩) G.length cap) (fsI G) := World.ownsRow.kept hI3 hg4 (ints_map hI3 hM3)
              have hW4 : Strs w4 (B + 1) (.slice (some ⟨g', 0, none⟩) G.length cap') (wsB G) := World.ownsRow.kept hW3 hg4 (strs_map hW3 hM3)
              have hB4 := hB3'.grown hg4 (by have := hB3'.size; omega) (fun j e => by cases e; omega)
              have hs4 := hB4.size
              clear hI3 hW3 hM3 hg4 hB3' hcw3
              have hi4 : B + 1 ≤ w4.heap.size := by omega
              have HL1 := hide hLi
              have HL2 := hide hLw
              have HE1 := hide hG1e
              clear hG1e hLi hLw hLn
              go_wp2_with (at_builtin; refine wpList_app_ints rfl (.tmp 52) (.tmp 54) rfl (B + 1) _ _ rfl (hI4.alloc _) w4.heap.size 1 [(y : Int)] rfl rfl (heap_alloc_new w4 _) (by rw [HL1.out]; omega) (by simp; omega) ?_; intro v5 w5 hI5 hg5)
              replace hg5 : (w4.alloc (Obj.cells #[Value.int IntKind.i64 (y : Int)] 3)).grownBy w5 (Value.ownBlock (.slice (some ⟨g, 0, none⟩) G.length cap)) := hg5
              have hW5 : Strs w5 (B + 1) (.slice (some ⟨g', 0, none⟩) G.length cap') (wsB G) := World.ownsRow.kept (hW4.alloc (Obj.cells #[Value.int IntKind.i64 (y : Int)] 3)) hg5 (strRow_int (hW4.alloc (Obj.cells #[Value.int IntKind.i64 (y : Int)] 3)) (hI4.alloc (Obj.cells #[Value.int IntKind.i64 (y : Int)] 3)))
              have hM5 := (hM4.alloc (Obj.cells #[Value.int IntKind.i64 (y : Int)] 3)).kept hg5 (row_ne_map (hI4.alloc (Obj.cells #[Value.int IntKind.i64 (y : Int)] 3)) (hM4.alloc (Obj.cells #[Value.int IntKind.i64 (y : Int)] 3)))
              have hcw5 := hW5.cell (k := i) (by rw [HL2.out]; exact hiG)
              have hxw : (wsB G)[i]'(by rw [HL2.out]; exact hiG) = x.2 := HXW.out _
              rw [hxw] at hcw5
              have hB5 := (hB4.alloc hi4 (Obj.cells #[Value.int IntKind.i64 (y : Int)] 3)).grown hg5 (by simp; omega) (fun _ hk => (World.ownsRow.lt hI4 _ hk).1)
              have hi5 : B + 1 ≤ w5.heap.size := by have := hB5.size; omega
              clear hI4 hW4 hM4 hg5 hB4 hs4 hi4 hxw
              have q1 : IntKind.i64.wrap ((k : Int) + 1) = (k : Int) + 1 := IntWalk.i64_in _ (by omega)
              have q2 : ((k : Int) + 1).toNat = k + 1 := by omega
              have q3 : (0 : Int) ≤ (k : Int) + 1 := by omega
              have q4 : (k : Int) + 1 ≤ 16 := by omega
              have q5 : (0 : Int) ≤ (k : Int) := by omega
              have q6 : (k : Int) ≤ (k : Int) + 1 := by omega
              have q7 : ¬ 9223372036854775807 < x.2.size + (min (k + 1) 16 - k) := by omega
              replace hcw5 : w5.drew.cell? ⟨g', i, none⟩ = some (.string x.2) := hcw5
              go_region_law (refine step_app_strs (by rfl) (.tmp 56) (.tmp 66) (by rfl) (B + 1) _ _ (by rfl) ((World.ownsRow.drew hW5).alloc _) w5.heap.size 1 [x.2 ++ ltr k] (by rfl) (by rfl) (heap_alloc_new w5.drew _) (by rw [HL2.out]; omega) (by simp; omega) ?_; intro v6 w6 hW6 hg6)
              have hW5a : Strs (w5.alloc (Obj.cells #[Value.string (x.2 ++ ltr k)] 9)).drew (B + 1) (.slice (some ⟨g', 0, none⟩) G.length cap') (wsB G) := hW5.alloc _
              have hI5a : Ints (w5.alloc (Obj.cells #[Value.string (x.2 ++ ltr k)] 9)).drew (B + 1) v5 (fsI G ++ [(y : Int)]) := hI5.alloc _
              have hM5a : SeenV (w5.alloc (Obj.cells #[Value.string (x.2 ++ ltr k)] 9)).drew (B + 1 + 1 + 1) (fsN G ++ [y]) := hM5.alloc _
              have hI6 : Ints w6 (B + 1) v5 (fsI G ++ [(y : Int)]) := World.ownsRow.kept hI5a hg6 (intRow_str hW5a hI5a)
              have hM6 := hM5a.kept hg6 (row_ne_map hW5a hM5a)
              have hB6 := ((hB5.alloc hi5 (Obj.cells #[Value.string (x.2 ++ ltr k)] 9)).drew).grown hg6 (by simp; omega) (fun _ hk => (World.ownsRow.lt hW5 _ hk).1)
              clear hI5 hW5 hM5 hI5a hW5a hM5a hg6 hB5 hcw5 q1 q2 q3 q4 q6 q7
              go_wp2
              go_roundw
              case rel => exact ⟨k + 1, by go_num, hkl, by rw [HE1.out, fsI_snoc]; exact hI6, by rw [HE1.out, wsB_snoc]; exact hW6, by rw [HE1.out, fsN_snoc]; exact hM6, hB6⟩
              case measure => simp [intOf]; omega
          · obtain rfl : k = L := by omega
            go_wp2
            go_roundw
            case rel => exact ⟨i + 1, growK rows x l k, by go_num, by obtain ⟨h, _⟩ := HGe.out k; omega, hide (HGr.out k (Nat.le_refl _)), HE, hI, hW, hM, hB⟩
            case measure => simp [intOf]; omega
    · obtain rfl : i = l.length := by omega
      have hE : R = (⟨#[]⟩, false) := HFl.out.trans (bfs_end (Nat.le_refl _) hl64)
      obtain ⟨g, cap, hsv⟩ := hI.shape
      subst hsv
      rw [hLi]
      replace hE := hide hE
      go_wp2
      go_ret2
      exact ⟨by rw [hE.out]; rfl, hBB ▸ hB0.trans (hB.mono (by omega))⟩
end Go.Proofs.YtpppbkdbpbpinaaGreatDoor
