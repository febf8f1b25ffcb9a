/- reset.proves: its contract. -/
import Derived.Test.YtmokccidpnpimaaDoorPrvP
import Derived.Test.YtmokccidpnpimaaDoorLay
set_option linter.unusedVariables false
namespace Go.Proofs.YtmokccidpnpimaaDoor
open Go.RowKit Go.Maps
theorem getD_get {a : List Int} {i : Nat} (h : i < a.length) : a[i] = a.getD i 0 := by rw [List.getD_eq_getElem?_getD, List.getElem?_eq_getElem h]; rfl
theorem getD_get2 {a : List (List Int)} {i : Nat} (h : i < a.length) : a[i] = a.getD i [] := by rw [List.getD_eq_getElem?_getD, List.getElem?_eq_getElem h]; rfl
set_option maxRecDepth 100000 in
set_option maxHeartbeats 2000000 in
theorem zproves_any (rows : List (List Int)) (L : Nat) (A : Option Addr) (cc : Nat) (ls : List (List Int)) (D : Option Addr) (dc : Nat) (w : World) (hA : Aut rows L) (hR : RowD w A rows) (hT : TabZ w) (hD : RowD w D ls) (hl : ls.length ≤ 70) (hx : ∀ x ∈ ls, x.length ≤ 70) :
    Calls Tryd.prog 43 #[.agg #[.int .i64 L, .slice A rows.length cc], .slice D ls.length dc] w fun e w' => e = .returned (.bool (prv rows L ls)) ∧ Below w.heap.size w w' := by
  have hB0 : Below w.heap.size w (w.alloc (Obj.cells #[.int .i64 L, .slice A rows.length cc] 24)) := (Below.refl _ w).alloc (Nat.le_refl _) _
  have HR := hide (hR.below hB0)
  have HT := hide (hT.below hB0)
  have HD := hide (hD.below hB0)
  obtain ⟨B, hBB⟩ : ∃ B, w.heap.size = B := ⟨_, rfl⟩
  have hbx : BoxA (w.alloc (Obj.cells #[.int .i64 L, .slice A rows.length cc] 24)) B L A rows.length cc := by rw [← hBB]; exact heap_alloc_new w _
  have k0 := hbx.c0
  have k1 := hbx.c1
  have hsz : (w.alloc (Obj.cells #[.int .i64 L, .slice A rows.length cc] 24)).heap.size = B + 1 := by rw [← hBB]; simp
  have hn := hA.n6
  have hl3 := hA.l3
  have HA := hide hA
  have HX := hide hx
  have HF0 := hide (fun W => zall_any rows L A cc W (by omega))
  obtain ⟨F, hFF⟩ : ∃ F, 2 ^ rows.length - 1 = F := ⟨_, rfl⟩
  have hF64 : F < 64 := by rw [← hFF]; exact Nat.lt_of_lt_of_le (full_lt _) hA.pow
  have HFE := hide hFF
  rw [hFF] at HF0
  have HNO := hide (fun h0 h => prv_head (rows := rows) (L := L) (ls := ls) h0 h)
  have HNL := hide (fun k hk h => prv_lay (rows := rows) (L := L) (ls := ls) (k := k) hk h)
  have HYE := hide (fun h0 h => prv_ok (rows := rows) (L := L) (ls := ls) h0 h)
  rw [hFF] at HNO HYE
  generalize prv rows L ls = R at HNO HNL HYE ⊢
  have HSL := hide (fun k => snL_len hl hx k)
  have hmm := @run_makeMap Tryd.prog
  have H0 : ls.length = 0 ∨ (0 < ls.length ∧ ls.getD 0 [] ≠ [(F : Int)]) ∨ (0 < ls.length ∧ ls.getD 0 [] = [(F : Int)]) := by
    by_cases h : ls.length = 0
    · exact .inl h
    · by_cases h2 : ls.getD 0 [] = [(F : Int)]
      · exact .inr (.inr ⟨by omega, h2⟩)
      · exact .inr (.inl ⟨by omega, h2⟩)
  clear hR hT hD hA hx hFF
  go_enter Tryd.func43, Tryd.ntmps43
  go_wp2_with fail
  generalize w.alloc (Obj.cells #[.int .i64 L, .slice A rows.length cc] 24) = W1 at hB0 HR HT HD hbx k0 k1 hsz ⊢
  have lB : B < W1.heap.size := by omega
  go_cut [26] from 14 (fun bv wc => bv = .bool (decide (0 < ls.length ∧ ls.getD 0 [] ≠ [(F : Int)])) ∧ Below (B + 1) W1 wc)
  case first =>
    by_cases h0 : ls.length = 0
    · obtain rfl : ls = [] := List.eq_nil_of_length_eq_zero h0
      go_region
      go_wp2_with fail
      go_meet
      case rel => exact ⟨by simp, ((Below.refl (B + 1) W1).drew)⟩
    · have hp : 0 < ls.length := by omega
      obtain ⟨b, o, rfl, hbl, hcell⟩ := HD.out hp
      obtain ⟨D0, c0, hc0, hr0⟩ := hcell 0 hp
      rw [getD_get2 hp] at hc0 hr0
      have hx0 : (ls.getD 0 []).length ≤ 70 := by rw [← getD_get2 hp]; exact HX.out _ (List.getElem_mem hp)
      obtain ⟨v, hv⟩ : ∃ v, decide (ls.getD 0 [] = [(F : Int)]) = v := ⟨_, rfl⟩
      have HEQ : Hid (∀ (W3 : World), Below (B + 1) W1 W3 → Calls Tryd.prog 60 #[.slice D0 (ls.getD 0 []).length c0, .slice (some ⟨W3.heap.size, 0, none⟩) 1 1] (W3.alloc (Obj.cells #[.int .i64 F] 3)) fun e w' => e = .returned (.bool v) ∧ ∃ q, w' = (W3.alloc (Obj.cells #[.int .i64 F] 3)).drewN q) := hide fun W3 h => by
        rw [← hv]
        exact slEqualI_any (ls.getD 0 []) [(F : Int)] D0 (some ⟨W3.heap.size, 0, none⟩) c0 1 (W3.alloc (Obj.cells #[.int .i64 F] 3))
          ((hr0.below (h.mono (Nat.le_of_eq hsz))).below ((Below.refl _ W3).alloc (Nat.le_refl _) _))
          (fun _ => ⟨W3.heap.size, 0, rfl, by simp, fun k hk => by
            have : k = 0 := by simp at hk; omega
            subst this
            rw [cell_of_row _ W3.heap.size 0 _ 3 (0, 0) (heap_alloc_new W3 _)]; rfl⟩) (by omega) (by simp)
      obtain ⟨n0, hn0⟩ : ∃ n0, (ls.getD 0 []).length = n0 := ⟨_, rfl⟩
      rw [hn0] at hc0 HEQ
      have HV : Hid (∀ v : Bool, decide (ls.getD 0 [] = [(F : Int)]) = v → (!v) = decide (0 < ls.length ∧ ls.getD 0 [] ≠ [(F : Int)])) := hide fun v hv => by
        subst hv
        by_cases h : ls.getD 0 [] = [(F : Int)]
        · rw [decide_eq_true h, decide_eq_false (fun hh => hh.2 h)]; rfl
        · rw [decide_eq_false h, decide_eq_true ⟨hp, h⟩]; rfl
      have hp1 : (0 : Int) < (ls.length : Int) := by omega
      have hAcc : Below (B + 1) W1 W1.drew := (Below.refl _ W1).drew
      have m0 : W1.drew.cell? ⟨B, 0, none⟩ = some (.int .i64 L) := k0
      have m1 : W1.drew.cell? ⟨B, 1, none⟩ = some (.slice A rows.length cc) := k1
      have mc : W1.drew.cell? ⟨b, o, none⟩ = some (.slice D0 n0 c0) := hc0
      have HVV := hide (HV.out v hv)
      clear hv HV h0 hcell hr0 hx0 hn0
      go_region_held3 (fun W => W.cell? ⟨B, 0, none⟩ = some (.int .i64 L) ∧ W.cell? ⟨B, 1, none⟩ = some (.slice A rows.length cc) ∧ W.cell? ⟨b, o, none⟩ = some (.slice D0 n0 c0))
        (first | with_reducible exact ⟨m0, m1, mc⟩ | exact ⟨cell_up m0 _, cell_up m1 _, cell_up mc _⟩)
        (first
          | (go_at_call 37; refine (HF0.out _).mono ?_; rintro e w3 ⟨rfl, hB3⟩; replace hAcc := hAcc.trans (hB3.mono (by have := hAcc.size; omega)); replace m0 := (hB3.cell (p := ⟨B, 0, none⟩) (World.block_lt_of_cell? _ _ m0)).trans m0; replace m1 := (hB3.cell (p := ⟨B, 1, none⟩) (World.block_lt_of_cell? _ _ m1)).trans m1; replace mc := (hB3.cell (p := ⟨b, o, none⟩) (World.block_lt_of_cell? _ _ mc)).trans mc)
          | (go_at_call 60; refine (HEQ.out _ hAcc).mono ?_; rintro e w4 ⟨rfl, q4, rfl⟩))
      all_goals (
        go_wp2_with fail
        go_meet
        case rel => exact ⟨by rw [← HVV.out], belowN (hAcc.alloc (by have := hAcc.size; omega) _) _⟩)
  case rest =>
    obtain ⟨rfl, hB⟩ := hcut
    have hs1 := hB.size
    by_cases hbad : 0 < ls.length ∧ ls.getD 0 [] ≠ [(F : Int)]
    · have hR0 := HNO.out hbad.1 hbad.2
      rw [decide_eq_true hbad]
      clear H0 hbad
      replace hR0 := hide hR0
      go_wp2
      go_ret
      exact ⟨by rw [hR0.out]; rfl, hBB ▸ hB0.trans (hB.mono (by omega))⟩
    · have h0 : ls.length = 0 ∨ ls.getD 0 [] = [(F : Int)] := by
        rcases H0 with h | h | h
        · exact .inl h
        · exact absurd h hbad
        · exact .inr h.2
      rw [decide_eq_false hbad]
      have HY := hide (HYE.out h0)
      clear H0 hbad h0 HYE HNO
      have hm0 : SeenV (wc.alloc (Obj.map #[] 0)) wc.heap.size [] := SeenV.made_ rfl
      have hB2 : Below (B + 1) W1 (wc.alloc (Obj.map #[] 0)) := hB.alloc (by omega) _
      obtain ⟨M, hM⟩ : ∃ M, wc.heap.size = M := ⟨_, rfl⟩
      rw [hM] at hm0
      have hMB : B + 1 ≤ M := by omega
      go_wp2
      generalize wc.alloc (Obj.map #[] 0) = W2 at hm0 hB2 ⊢
      clear hB hs1 hM hmm
      go_loopg [30] ls.length (fun gk iv wr => ∃ k : Nat, gk = ls.length - k ∧ iv = .int .i64 k ∧ k ≤ ls.length ∧ Hid (∀ j, j < k → layOk rows L ls j = true) ∧ SeenV wr M (snL ls k) ∧ Below (B + 1) W1 wr)
      case atStart => exact ⟨0, rfl, rfl, Nat.zero_le _, hide (fun j h => absurd h (by omega)), hm0, hB2⟩
      case round =>
        obtain ⟨k, hgk, rfl, hk, hall, hM, hB⟩ := hrel
        clear hm0 hB2
        by_cases hkl : k < ls.length
        · obtain ⟨b, o, rfl, hbl, hcell⟩ := HD.out (by omega)
          have hLall := hide (fun x hx => HX.out x hx)
          obtain ⟨D1, c1, hc1, hr1⟩ := hcell k hkl
          rw [getD_get2 hkl] at hc1 hr1
          have hxa : (ls.getD k []).length ≤ 70 := by rw [← getD_get2 hkl]; exact HX.out _ (List.getElem_mem hkl)
          have hsn := HSL.out (k + 1)
          have HEL := hide (fun i hi h => HNL.out k hkl (layOk_el (rows := rows) (L := L) (ls := ls) (k := k) (i := i) hi h))
          have HST := hide (fun hk1 i c hi hc h => HNL.out k hkl (layOk_st (rows := rows) (L := L) (ls := ls) (k := k) (i := i) (c := c) hk1 hi hc h))
          have HYS := hide (fun h1 h2 => layOk_yes (rows := rows) (L := L) (ls := ls) (k := k) h1 h2)
          have hsu := snL_succ hkl
          rw [getD_get2 hkl] at hsu
          rw [HFE.out] at HEL HYS
          have hN : Hid (k + 1 < ls.length → ∃ D2 c2, W1.cell? ⟨b, o + (k + 1), none⟩ = some (.slice D2 (ls.getD (k + 1) []).length c2) ∧ RowI W1 D2 (ls.getD (k + 1) []) ∧ (ls.getD (k + 1) []).length ≤ 70) := hide fun hk1 => by
            obtain ⟨D2, c2, hc2, hr2⟩ := hcell (k + 1) hk1
            rw [getD_get2 hk1] at hc2 hr2
            exact ⟨D2, c2, hc2, hr2, by rw [← getD_get2 hk1]; exact HX.out _ (List.getElem_mem hk1)⟩
          obtain ⟨a, ha⟩ : ∃ a, ls.getD k [] = a := ⟨_, rfl⟩
          rw [ha] at hc1 hr1 hxa HEL HST HYS hsu
          have hsna : (snL ls k ++ natL a).length ≤ 4900 := by rw [← hsu]; exact hsn
          obtain ⟨sn, hsn0⟩ : ∃ sn, snL ls k = sn := ⟨_, rfl⟩
          rw [hsn0] at hM hsu hsna
          have HSU := hide hsu
          have HR1 := hide hr1
          have i0 : (0 : Int) ≤ (k : Int) := by omega
          have i1 : (k : Int) < (ls.length : Int) := by omega
          have hbB : b < B + 1 := by omega
          have hc1' := (hB.cell (p := ⟨b, o + k, none⟩) hbB).trans hc1
          clear hcell ha hsn0 hsu hr1 hsn
          go_wp2
          clear hc1'
          go_loopg [37] a.length (fun gi iv wr => ∃ i : Nat, gi = a.length - i ∧ iv = .int .i64 i ∧ i ≤ a.length ∧ Hid (∀ j, j < i → okAt F a j = true) ∧ SeenV wr M (sn ++ natL (a.take i)) ∧ Below (B + 1) W1 wr)
          case atStart => exact ⟨0, rfl, rfl, Nat.zero_le _, hide (fun j h => absurd h (by omega)), by simpa [natL] using hM, hB⟩
          case round =>
            obtain ⟨i, hgi, rfl, hi, hok, hM, hB⟩ := hrel
            have hs1 := hB.size
            by_cases hia : i < a.length
            · obtain ⟨b1, o1, e1, hb1, hcz⟩ := HR1.out (by omega)
              subst e1
              have hz0 := (hB.cell (p := ⟨b1, o1 + i, none⟩) (show b1 < B + 1 by omega)).trans (hcz i hia)
              rw [getD_get hia] at hz0
              have hzp : Hid (0 < i → wr.cell? ⟨b1, o1 + (i - 1), none⟩ = some (.int .i64 (a.getD (i - 1) 0))) := hide fun h => by
                have := (hB.cell (p := ⟨b1, o1 + (i - 1), none⟩) (show b1 < B + 1 by omega)).trans (hcz (i - 1) (by omega))
                rw [getD_get (by omega)] at this
                exact this
              have j0 : (0 : Int) ≤ (i : Int) := by omega
              have j1 : (i : Int) < (a.length : Int) := by omega
              have hbx7 : BoxA wr B L A rows.length cc := (hB.block B (Nat.lt_succ_self B)).trans hbx
              have m0 := hbx7.c0
              have m1 := hbx7.c1
              have hla : (natL (a.take i)).length = i := by simp [natL]; omega
              have HTK := hide (show natL (a.take (i + 1)) = natL (a.take i) ++ [(a.getD i 0).toNat] by rw [List.take_succ_eq_append_getElem hia, getD_get hia]; simp [natL])
              have hlen2 : (sn ++ natL (a.take i)).length ≤ 1000000 := by rw [List.length_append] at hsna ⊢; have : (natL a).length = a.length := by simp [natL]
                                                                          omega
              have HOK := hide (@okAt_iff F a i)
              have HBAD := hide (fun h => HEL.out i hia (okAt_no (F := F) (a := a) (i := i) h))
              obtain ⟨z, hz⟩ : ∃ z, a.getD i 0 = z := ⟨_, rfl⟩
              rw [hz] at hz0 HTK HOK HBAD
              obtain ⟨p, hp⟩ : ∃ p, a.getD (i - 1) 0 = p := ⟨_, rfl⟩
              rw [hp] at hzp HOK HBAD
              clear hz hp hcz hla
              have hBd := hide hB
              have hMd := hide hM
              by_cases hz1 : z < 1
              · have hR1 := hide (HBAD.out (fun h => by have := h.1; omega))
                clear hzp HBAD HOK
                go_wp2
                go_ret
                exact ⟨by rw [hR1.out]; rfl, hBB ▸ hB0.trans (hBd.out.mono (by omega))⟩
              · by_cases hzF : (F : Int) < z
                · have hR1 := hide (HBAD.out (fun h => by have := h.2.1; omega))
                  clear hzp HBAD HOK
                  go_wp2_with (go_at_call 37; refine (HF0.out _).mono ?_; rintro e w3 ⟨rfl, hB3⟩)
                  go_ret
                  exact ⟨by rw [hR1.out]; rfl, hBB ▸ hB0.trans ((hBd.out.trans (hB3.mono (by omega))).mono (by omega))⟩
                · obtain ⟨x, rfl⟩ := Int.eq_ofNat_of_zero_le (show (0 : Int) ≤ z by omega)
                  have hx64 : x < 64 := by omega
                  rw [Int.toNat_natCast] at HTK HOK HBAD
                  have HX1 := hide (fun W => zsingle_any x W hx64)
                  cases hsg : sglB x with
                  | true =>
                    rw [hsg] at HX1
                    have hR1 := hide (HBAD.out (fun h => by have := h.2.2.1; rw [hsg] at this; cases this))
                    clear hzp HBAD HOK hsg
                    go_wp2_with (first
                      | (go_at_call 37; refine (HF0.out _).mono ?_; rintro e w3 ⟨rfl, hB3⟩)
                      | (go_at_call 48; refine (HX1.out _).mono ?_; rintro e w5 ⟨rfl, rfl⟩))
                    go_ret
                    exact ⟨by rw [hR1.out]; rfl, hBB ▸ hB0.trans ((hBd.out.trans (hB3.mono (by omega))).mono (by omega))⟩
                  | false =>
                    rw [hsg] at HX1
                    by_cases hi0 : i = 0
                    · have hib : decide ((0 : Int) < (i : Int)) = false := by simp [hi0]
                      have hib2 : ¬ (0 : Int) < (i : Int) := by omega
                      have HG := hide (HOK.out.2 ⟨by omega, by omega, hsg, fun h => absurd h (by omega)⟩)
                      clear hzp HBAD HOK hsg hi0
                      go_wp2_with (first
                        | (go_at_call 37; refine (HF0.out _).mono ?_; rintro e w3 ⟨rfl, hB3⟩; have hM3 := hMd.out.belowL hB3 (Nat.le_refl _); obtain ⟨w4, hrun, hM4, hg4⟩ := hM3.store hlen2 x (by omega))
                        | (go_at_call 48; refine (HX1.out _).mono ?_; rintro e w5 ⟨rfl, rfl⟩))
                      go_roundg (a.length - (i + 1))
                      case measure => omega
                      case rel =>
                        have hB4 := (hBd.out.trans (hB3.mono (by omega))).grown hg4 (by have := hB3.size; omega) (fun j e => by cases e; exact hMB)
                        exact ⟨i + 1, rfl, by go_num, hia, hide (fun j hj => by
                          by_cases e : j < i
                          · exact hok.out j e
                          · obtain rfl : j = i := by omega
                            exact HG.out), by rw [HTK.out, ← List.append_assoc]; exact hM4, hB4⟩
                    · have hib2 : (0 : Int) < (i : Int) := by omega
                      have hp0 := hzp.out (by omega)
                      obtain ⟨j, hj⟩ : ∃ j, j = i - 1 := ⟨_, rfl⟩
                      have hiw : IntKind.i64.wrap ((i : Int) - 1) = (j : Int) := by rw [IntWalk.i64_in _ (by omega)]; omega
                      have hi2 : (0 : Int) ≤ (j : Int) := by omega
                      have hi3 : (j : Int) < (a.length : Int) := by omega
                      rw [← hj] at hp0
                      by_cases hpz : (x : Int) ≤ p
                      · have hR1 := hide (HBAD.out (fun h => by have := h.2.2.2 (by omega); omega))
                        clear hzp HBAD HOK hsg hi0 hj
                        go_wp2_with (first
                          | (go_at_call 37; refine (HF0.out _).mono ?_; rintro e w3 ⟨rfl, hB3⟩; have hp3 := (hB3.cell (p := ⟨b1, o1 + j, none⟩) (World.block_lt_of_cell? _ _ hp0)).trans hp0)
                          | (go_at_call 48; refine (HX1.out _).mono ?_; rintro e w5 ⟨rfl, rfl⟩))
                        go_ret
                        exact ⟨by rw [hR1.out]; rfl, hBB ▸ hB0.trans ((hBd.out.trans (hB3.mono (by omega))).mono (by omega))⟩
                      · have HG := hide (HOK.out.2 ⟨by omega, by omega, hsg, fun h => by omega⟩)
                        clear hzp HBAD HOK hsg hi0 hj
                        go_wp2_with (first
                          | (go_at_call 37; refine (HF0.out _).mono ?_; rintro e w3 ⟨rfl, hB3⟩; have hp3 := (hB3.cell (p := ⟨b1, o1 + j, none⟩) (World.block_lt_of_cell? _ _ hp0)).trans hp0; have hM3 := hMd.out.belowL hB3 (Nat.le_refl _); obtain ⟨w4, hrun, hM4, hg4⟩ := hM3.store hlen2 x (by omega))
                          | (go_at_call 48; refine (HX1.out _).mono ?_; rintro e w5 ⟨rfl, rfl⟩))
                        go_roundg (a.length - (i + 1))
                        case measure => omega
                        case rel =>
                          have hB4 := (hBd.out.trans (hB3.mono (by omega))).grown hg4 (by have := hB3.size; omega) (fun j e => by cases e; exact hMB)
                          exact ⟨i + 1, rfl, by go_num, hia, hide (fun j hj => by
                            by_cases e : j < i
                            · exact hok.out j e
                            · obtain rfl : j = i := by omega
                              exact HG.out), by rw [HTK.out, ← List.append_assoc]; exact hM4, hB4⟩
            · obtain rfl : i = a.length := by omega
              rw [List.take_length, ← HSU.out] at hM
              obtain ⟨SN, hSN⟩ : ∃ SN, snL ls (k + 1) = SN := ⟨_, rfl⟩
              obtain ⟨nx, hnx⟩ : ∃ nx, ls.getD (k + 1) [] = nx := ⟨_, rfl⟩
              have HSN := hide hSN
              rw [hSN] at hM HST HYS
              rw [hnx] at hN HST HYS
              clear hSN hnx HEL
              have hw1 : IntKind.i64.wrap ((ls.length : Int) - 1) = (ls.length : Int) - 1 := IntWalk.i64_in _ (by omega)
              by_cases hlast : k + 1 = ls.length
              · have hb1 : ((k : Int) == (ls.length : Int) - 1) = true := by rw [beq_iff_eq]; omega
                have hR1 := hide (HY.out (fun j hj => by
                  by_cases e : j < k
                  · exact hall.out j e
                  · obtain rfl : j = k := by omega
                    exact HYS.out hok.out (.inl hlast)))
                clear hlast HST HYS
                go_wp2
                go_ret
                exact ⟨by rw [hR1.out]; rfl, hBB ▸ hB0.trans (hB.mono (by omega))⟩
              · have hb1 : ((k : Int) == (ls.length : Int) - 1) = false := by rw [beq_eq_false_iff_ne]; omega
                have hk1 : k + 1 < ls.length := by omega
                obtain ⟨D2, c2, hc2, hr2, hx2⟩ := hN.out hk1
                have HR2 := hide hr2
                have HC2 := hide hc2
                clear hlast hr2 hc2
                have HM := hide hM
                have HB := hide hB
                clear hM hB
                go_wp2
                go_loopg [77] a.length (fun gi iv wr => ∃ i : Nat, gi = a.length - i ∧ iv = .int .i64 i ∧ i ≤ a.length ∧ Hid (∀ j, j < i → ∀ c, c < L → stOk rows SN nx (a.getD j 0).toNat c = true) ∧ SeenV wr M SN ∧ Below (B + 1) W1 wr)
                case atStart => exact ⟨0, rfl, rfl, Nat.zero_le _, hide (fun j h => absurd h (by omega)), HM.out, HB.out⟩
                case round =>
                  obtain ⟨i, hgi, rfl, hi, hst, hM, hB⟩ := hrel
                  clear HM HB
                  by_cases hia : i < a.length
                  · obtain ⟨b1, o1, e1, hb1', hcz⟩ := HR1.out (by omega)
                    subst e1
                    have hz0 := (hB.cell (p := ⟨b1, o1 + i, none⟩) (show b1 < B + 1 by omega)).trans (hcz i hia)
                    rw [getD_get hia] at hz0
                    have j0 : (0 : Int) ≤ (i : Int) := by omega
                    have j1 : (i : Int) < (a.length : Int) := by omega
                    have hbx7 : BoxA wr B L A rows.length cc := (hB.block B (Nat.lt_succ_self B)).trans hbx
                    have m0 := hbx7.c0
                    have HOKi := hide (okAt_iff.1 (hok.out i hia))
                    have HSTi := hide (fun c hc h => HST.out hk1 i c hia hc h)
                    obtain ⟨z, hz⟩ : ∃ z, a.getD i 0 = z := ⟨_, rfl⟩
                    rw [hz] at hz0 HOKi HSTi
                    have HZ := hide hz
                    have hz1 := HOKi.out.1
                    have hzF := HOKi.out.2.1
                    obtain ⟨x, rfl⟩ := Int.eq_ofNat_of_zero_le (show (0 : Int) ≤ z by omega)
                    have hxF : x ≤ F := by omega
                    rw [Int.toNat_natCast] at HSTi
                    clear hz hcz HOKi hz1 hzF
                    have HM := hide hM
                    have HB := hide hB
                    clear hM hB hbx7
                    go_wp2
                    go_loopg [83] L (fun gc cv wr => ∃ c : Nat, gc = L - c ∧ cv = .int .i64 c ∧ c ≤ L ∧ Hid (∀ d, d < c → stOk rows SN nx x d = true) ∧ SeenV wr M SN ∧ Below (B + 1) W1 wr)
                    case atStart => exact ⟨0, rfl, rfl, Nat.zero_le _, hide (fun j h => absurd h (by omega)), HM.out, HB.out⟩
                    case round =>
                      obtain ⟨c, hgc, rfl, hc, hsc, hM, hB⟩ := hrel
                      clear HM HB hz0 m0
                      have hs1 := hB.size
                      by_cases hcL : c < L
                      · have hbx7 : BoxA wr B L A rows.length cc := (hB.block B (Nat.lt_succ_self B)).trans hbx
                        have m0 := hbx7.c0
                        have m1 := hbx7.c1
                        have hx2n : x < 2 ^ rows.length := by have := HFE.out; have := Nat.pow_pos (n := rows.length) (show 0 < 2 by decide); omega
                        have hy64 : img rows x c < 64 := Nat.lt_of_lt_of_le (HA.out.img_lt hcL _) HA.out.pow
                        have HSTc := hide (fun h => HSTi.out c hcL h)
                        have HSO := hide (show stOk rows SN nx x c = (decide (img rows x c ∈ SN) || hasI (img rows x c : Nat) nx) from rfl)
                        have HSP : Hid (Calls Tryd.prog 57 #[.agg #[.int .i64 L, .slice A rows.length cc], .int .i64 x, .int .i64 c] wr fun e w' => e = .returned (.int .i64 (img rows x c)) ∧ Below wr.heap.size wr w') :=
                          hide (zstep_any rows L x c A cc wr HA.out hcL hx2n (HR.out.below (hB.mono (Nat.le_of_eq hsz))) (HT.out.below (hB.mono (Nat.le_of_eq hsz))))
                        obtain ⟨y, hy⟩ : ∃ y, img rows x c = y := ⟨_, rfl⟩
                        rw [hy] at hy64 HSO HSP
                        have HM := hide hM
                        have HB := hide hB
                        clear hy hM hB hbx7
                        have q1 : IntKind.i64.wrap ((k : Int) + 1) = ((k + 1 : Nat) : Int) := by rw [IntWalk.i64_in _ (by omega)]; omega
                        have q2 : (0 : Int) ≤ ((k + 1 : Nat) : Int) := by omega
                        have q3 : ((k + 1 : Nat) : Int) < (ls.length : Int) := by omega
                        by_cases hm : y ∈ SN
                        · have hG := hide (show stOk rows SN nx x c = true by rw [HSO.out, decide_eq_true hm]; rfl)
                          replace hm := hide hm
                          go_wp2_with (go_at_call 57; refine HSP.out.mono ?_; rintro e w3 ⟨rfl, hB3⟩; have hM3 := HM.out.belowL hB3 (Nat.le_refl _); have hlook := hM3.look y (by omega); rw [decide_eq_true hm.out] at hlook)
                          go_roundg (L - (c + 1))
                          case measure => omega
                          case rel =>
                            exact ⟨c + 1, rfl, by go_num, hcL, hide (fun j hj => by
                              by_cases e : j < c
                              · exact hsc.out j e
                              · obtain rfl : j = c := by omega
                                exact hG.out), hM3, HB.out.trans (hB3.mono (by omega))⟩
                        · obtain ⟨u, hu⟩ : ∃ u, hasI ((y : Nat) : Int) nx = u := ⟨_, rfl⟩
                          have hG := hide (show stOk rows SN nx x c = u by rw [HSO.out, decide_eq_false hm, hu]; rfl)
                          have HCN : Hid (∀ W, Below wr.heap.size wr W → Calls Tryd.prog 61 #[.slice D2 nx.length c2, .int .i64 y] W fun e w' => e = .returned (.bool u) ∧ w' = W) := hide fun W hW => by
                            rw [← hu]
                            exact slContainsI_any nx y D2 c2 W (HR2.out.below ((HB.out.trans (hW.mono (by omega))).mono (Nat.le_of_eq hsz))) (by omega)
                          replace hm := hide hm
                          clear hu
                          have hnc : wr.cell? ⟨b, o + (k + 1), none⟩ = some (.slice D2 nx.length c2) := (HB.out.cell (p := ⟨b, o + (k + 1), none⟩) hbB).trans HC2.out
                          cases u with
                          | true =>
                            go_wp2_with (first
                              | (go_at_call 57; refine HSP.out.mono ?_; rintro e w3 ⟨rfl, hB3⟩; have hM3 := HM.out.belowL hB3 (Nat.le_refl _); have hlook := hM3.look y (by omega); rw [decide_eq_false hm.out] at hlook; have hnc3 := (hB3.cell (p := ⟨b, o + (k + 1), none⟩) (World.block_lt_of_cell? _ _ hnc)).trans hnc)
                              | (go_at_call 61; refine (HCN.out _ hB3).mono ?_; rintro e w5 ⟨rfl, rfl⟩))
                            go_roundg (L - (c + 1))
                            case measure => omega
                            case rel =>
                              exact ⟨c + 1, rfl, by go_num, hcL, hide (fun j hj => by
                                by_cases e : j < c
                                · exact hsc.out j e
                                · obtain rfl : j = c := by omega
                                  exact hG.out), hM3, HB.out.trans (hB3.mono (by omega))⟩
                          | false =>
                            have hR1 := hide (HSTc.out hG.out)
                            go_wp2_with (first
                              | (go_at_call 57; refine HSP.out.mono ?_; rintro e w3 ⟨rfl, hB3⟩; have hM3 := HM.out.belowL hB3 (Nat.le_refl _); have hlook := hM3.look y (by omega); rw [decide_eq_false hm.out] at hlook; have hnc3 := (hB3.cell (p := ⟨b, o + (k + 1), none⟩) (World.block_lt_of_cell? _ _ hnc)).trans hnc)
                              | (go_at_call 61; refine (HCN.out _ hB3).mono ?_; rintro e w5 ⟨rfl, rfl⟩))
                            go_ret
                            exact ⟨by rw [hR1.out]; rfl, hBB ▸ hB0.trans ((HB.out.trans (hB3.mono (by omega))).mono (by omega))⟩
                      · obtain rfl : c = L := by omega
                        go_wp2
                        go_roundg (a.length - (i + 1))
                        case measure => omega
                        case rel =>
                          exact ⟨i + 1, rfl, by go_num, hia, hide (fun j hj => by
                            by_cases e : j < i
                            · exact hst.out j e
                            · obtain rfl : j = i := by omega
                              rw [HZ.out, Int.toNat_natCast]
                              exact hsc.out), hM, hB⟩
                  · obtain rfl : i = a.length := by omega
                    have hG := hide (HYS.out hok.out (.inr hst.out))
                    go_wp2
                    go_roundg (ls.length - (k + 1))
                    case measure => omega
                    case rel =>
                      exact ⟨k + 1, rfl, by go_num, hkl, hide (fun j hj => by
                        by_cases e : j < k
                        · exact hall.out j e
                        · obtain rfl : j = k := by omega
                          exact hG.out), by rw [HSN.out]; exact hM, hB⟩
        · obtain rfl : k = ls.length := by omega
          have hR1 := hide (HY.out hall.out)
          go_wp2
          go_ret
          exact ⟨by rw [hR1.out]; rfl, hBB ▸ hB0.trans (hB.mono (by omega))⟩
end Go.Proofs.YtmokccidpnpimaaDoor
