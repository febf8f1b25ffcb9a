/- grooveref44.CheckLayers: its contract. -/
import Derived.Test.YtmokccidpnpimaaDoorRLy
set_option linter.unusedVariables false
namespace Go.Proofs.YtmokccidpnpimaaDoor
open Go.RowKit Go.Maps
theorem st_of {rows : List (List Int)} {ls : List (List Int)} {F : Int} {k S c : Nat} (hk : k + 1 < ls.length) (hok : ∀ q, q < (ls.getD (k + 1) []).length → okAt F (ls.getD (k + 1) []) q = true) :
    stOk rows (snL ls (k + 1)) (ls.getD (k + 1) []) S c = decide (img rows S c ∈ snL ls (k + 1 + 1)) := by
  rw [Bool.eq_iff_iff, decide_eq_true_iff, snL_succ hk, List.mem_append, getD_get2 hk]
  unfold stOk
  rw [Bool.or_eq_true, decide_eq_true_iff, hasI_iff]
  have e : ((img rows S c : Nat) : Int) ∈ ls.getD (k + 1) [] ↔ img rows S c ∈ natL (ls.getD (k + 1) []) := by
    constructor
    · intro h
      unfold natL
      exact List.mem_map.2 ⟨_, h, Int.toNat_natCast _⟩
    · intro h
      obtain ⟨q, hq, hx⟩ := natL_mem.1 h
      have := (okAt_iff.1 (hok q hq)).1
      rw [show ((img rows S c : Nat) : Int) = (ls.getD (k + 1) []).getD q 0 by omega, ← getD_get hq]
      exact List.getElem_mem hq
  rw [e]
set_option maxRecDepth 100000 in
set_option maxHeartbeats 8000000 in
theorem zrCheckLayers_any (L : Int) (rows : List (List Int)) (ls : List (List Int)) (s : ByteArray) (A : Option Addr) (cc : Nat) (D : Option Addr) (dc : Nat) (w : World) (hg : grt L rows.length = false) (hR : RowD w A rows) (hT : TabZ w) (hD : RowD w D ls) (hb : rows.length ≤ 9223372036854775807) (hsb : s.size ≤ 9223372036854775807) (hl : ls.length ≤ 70) (hx : ∀ x ∈ ls, x.length ≤ 70) :
    Calls Tryd.prog 19 #[.agg #[.int .i64 L, .slice A rows.length cc], .slice D ls.length dc, .string s] w fun e w' => e = .returned (.int .i64 (cklV L rows ls s.data.toList)) ∧ Below w.heap.size w w' := by
  have hB0 : Below w.heap.size w (w.alloc (Obj.cells #[.int .i64 L, .slice A rows.length cc] 24)) := (Below.refl _ w).alloc (Nat.le_refl _) _
  have HR := hide (hR.below hB0)
  have HT := hide (hT.below hB0)
  have HD := hide (hD.below hB0)
  obtain ⟨B, hBB⟩ : ∃ B, w.heap.size = B := ⟨_, rfl⟩
  have hbx : BoxA (w.alloc (Obj.cells #[.int .i64 L, .slice A rows.length cc] 24)) B L A rows.length cc := by rw [← hBB]; exact heap_alloc_new w _
  have k0 := hbx.c0
  have k1 := hbx.c1
  have hsz : (w.alloc (Obj.cells #[.int .i64 L, .slice A rows.length cc] 24)).heap.size = B + 1 := by rw [← hBB]; simp
  have hc1 : B + 1 ≤ (w.alloc (Obj.cells #[.int .i64 L, .slice A rows.length cc] 24)).heap.size := by omega
  have HV := hide (fun W (h : RowD W A rows) (hT : TabZ W) => zrVerify_any L rows s A cc W hg h hT hb hsb)
  have hsl : s.data.toList.length = s.size := by simp
  by_cases h0 : vrf L rows s.data.toList = 0
  · have hck : ckw L rows s.data.toList = 0 := by
      by_cases hc : ckw L rows s.data.toList = 0
      · exact hc
      · rw [vrf_bad hc] at h0; exact absurd h0 hc
    obtain ⟨l, rfl, hA⟩ := aut_of hg (ckw_ok hck).1
    rw [h0] at HV
    have HE := hide (show cklV l rows ls s.data.toList = if ls.length = s.size ∧ prv rows l ls = true then 0 else 23 by unfold cklV; rw [if_neg (by simp [h0]), Int.toNat_natCast, hsl])
    by_cases hll : ls.length = s.size
    · have hn := hA.n6
      have hl3 := hA.l3
      have HA := hide hA
      have HX := hide hx
      have HFU := hide (fun W => zfull_any rows l A cc W (by omega))
      obtain ⟨F, hFF⟩ : ∃ F, 2 ^ rows.length - 1 = F := ⟨_, rfl⟩
      have hF64 : F < 64 := by rw [← hFF]; exact Nat.lt_of_lt_of_le (full_lt _) hA.pow
      have HFE := hide hFF
      rw [hFF] at HFU
      have HNO := hide (fun h0 h => prv_head (rows := rows) (L := l) (ls := ls) h0 h)
      have HNL := hide (fun k hk h => prv_lay (rows := rows) (L := l) (ls := ls) (k := k) hk h)
      have HYE := hide (fun h0 h => prv_ok (rows := rows) (L := l) (ls := ls) h0 h)
      rw [hFF] at HNO HYE
      have HEB := hide (fun (h : prv rows l ls = false) => show cklV l rows ls s.data.toList = 23 by rw [HE.out, if_neg (fun e => by rw [h] at e; cases e.2)])
      have HEG := hide (fun (h : prv rows l ls = true) => show cklV l rows ls s.data.toList = 0 by rw [HE.out, if_pos ⟨hll, h⟩])
      generalize cklV l rows ls s.data.toList = C at HE HEB HEG ⊢
      generalize prv rows l ls = R at HNO HNL HYE HEB HEG
      have HSL := hide (fun k => snL_len hl hx k)
      have hmm := @run_makeMap Tryd.prog
      have hnn : ((ls.length : Int) != (s.size : Int)) = false := by rw [bne_eq_false_iff_eq]; omega
      have H0 : ls.length = 0 ∨ (0 < ls.length ∧ ls.getD 0 [] ≠ [(F : Int)]) ∨ (0 < ls.length ∧ ls.getD 0 [] = [(F : Int)]) := by
        by_cases h : ls.length = 0
        · exact .inl h
        · by_cases h2 : ls.getD 0 [] = [(F : Int)]
          · exact .inr (.inr ⟨by omega, h2⟩)
          · exact .inr (.inl ⟨by omega, h2⟩)
      clear hR hT hD hA hx hFF hg h0 hck hll HE hsl
      go_enter Tryd.func19, Tryd.ntmps19
      go_wp2_with fail
      generalize w.alloc (Obj.cells #[.int .i64 (l : Int), .slice A rows.length cc] 24) = W1 at hB0 HR HT HD hbx k0 k1 hsz hc1 ⊢
      have lB : B < W1.heap.size := by omega
      go_wp2_with (go_at_call 31; refine (HV.out W1 HR.out HT.out).mono ?_; rintro e w2 ⟨rfl, hB2⟩; have m0 := (hB2.cell (p := ⟨B, 0, none⟩) lB).trans k0; have m1 := (hB2.cell (p := ⟨B, 1, none⟩) lB).trans k1)
      replace hB2 : Below (B + 1) W1 w2 := hB2.mono (Nat.le_of_eq hsz.symm)
      have hs2 := hB2.size
      go_cut [37] from 25 (fun bv wc => bv = .bool (decide (0 < ls.length ∧ ls.getD 0 [] ≠ [(F : Int)])) ∧ Below (B + 1) W1 wc)
      case first =>
        by_cases h0 : ls.length = 0
        · obtain rfl : ls = [] := List.eq_nil_of_length_eq_zero h0
          go_region
          go_wp2_with fail
          go_meet
          case rel => exact ⟨by simp, hB2.drew⟩
        · have hp : 0 < ls.length := by omega
          obtain ⟨b, o, rfl, hbl, hcell⟩ := HD.out hp
          obtain ⟨D0, c0, hc0, hr0⟩ := hcell 0 hp
          rw [getD_get2 hp] at hc0 hr0
          have hx0 : (ls.getD 0 []).length ≤ 70 := by rw [← getD_get2 hp]; exact HX.out _ (List.getElem_mem hp)
          obtain ⟨v, hv⟩ : ∃ v, decide (ls.getD 0 [] = [(F : Int)]) = v := ⟨_, rfl⟩
          have HEQ : Hid (∀ (W3 : World), Below (B + 1) W1 W3 → Calls Tryd.prog 30 #[.slice D0 (ls.getD 0 []).length c0, .slice (some ⟨W3.heap.size, 0, none⟩) 1 1] (W3.alloc (Obj.cells #[.int .i64 F] 3)) fun e w' => e = .returned (.bool v) ∧ ∃ q, w' = (W3.alloc (Obj.cells #[.int .i64 F] 3)).drewN q) := hide fun W3 h => by
            rw [← hv]
            exact same12_any (ls.getD 0 []) [(F : Int)] D0 (some ⟨W3.heap.size, 0, none⟩) c0 1 (W3.alloc (Obj.cells #[.int .i64 F] 3))
              ((hr0.below (h.mono (Nat.le_of_eq hsz))).below ((Below.refl _ W3).alloc (Nat.le_refl _) _))
              (fun _ => ⟨W3.heap.size, 0, rfl, by simp, fun k hk => by
                have : k = 0 := by simp at hk; omega
                subst this
                rw [cell_of_row _ W3.heap.size 0 _ 3 (0, 0) (heap_alloc_new W3 _)]; rfl⟩) (by omega) (by simp)
          obtain ⟨n0, hn0⟩ : ∃ n0, (ls.getD 0 []).length = n0 := ⟨_, rfl⟩
          rw [hn0] at hc0 HEQ
          have HV : Hid (∀ v : Bool, decide (ls.getD 0 [] = [(F : Int)]) = v → (!v) = decide (0 < ls.length ∧ ls.getD 0 [] ≠ [(F : Int)])) := hide fun v hv => by
            subst hv
            by_cases h : ls.getD 0 [] = [(F : Int)]
            · rw [decide_eq_true h, decide_eq_false (fun hh => hh.2 h)]; rfl
            · rw [decide_eq_false h, decide_eq_true ⟨hp, h⟩]; rfl
          have hp1 : (0 : Int) < (ls.length : Int) := by omega
          have hAcc : Below (B + 1) W1 w2.drew := hB2.drew
          replace m0 : w2.drew.cell? ⟨B, 0, none⟩ = some (.int .i64 l) := m0
          replace m1 : w2.drew.cell? ⟨B, 1, none⟩ = some (.slice A rows.length cc) := m1
          have mc : w2.drew.cell? ⟨b, o, none⟩ = some (.slice D0 n0 c0) := (hB2.cell (p := ⟨b, o, none⟩) (show b < B + 1 by omega)).trans hc0
          have HVV := hide (HV.out v hv)
          clear hv HV h0 hcell hr0 hx0 hn0 hc0
          go_region_held3 (fun W => W.cell? ⟨B, 0, none⟩ = some (.int .i64 (l : Int)) ∧ W.cell? ⟨B, 1, none⟩ = some (.slice A rows.length cc) ∧ W.cell? ⟨b, o, none⟩ = some (.slice D0 n0 c0))
            (first | with_reducible exact ⟨m0, m1, mc⟩ | exact ⟨cell_up m0 _, cell_up m1 _, cell_up mc _⟩)
            (first
              | (go_at_call 41; refine (HFU.out _).mono ?_; rintro e w3 ⟨rfl, hB3⟩; replace hAcc := hAcc.trans (hB3.mono (by have := hAcc.size; omega)); replace m0 := (hB3.cell (p := ⟨B, 0, none⟩) (World.block_lt_of_cell? _ _ m0)).trans m0; replace m1 := (hB3.cell (p := ⟨B, 1, none⟩) (World.block_lt_of_cell? _ _ m1)).trans m1; replace mc := (hB3.cell (p := ⟨b, o, none⟩) (World.block_lt_of_cell? _ _ mc)).trans mc)
              | (go_at_call 30; refine (HEQ.out _ hAcc).mono ?_; rintro e w4 ⟨rfl, q4, rfl⟩))
          all_goals (
            go_wp2_with fail
            go_meet
            case rel => exact ⟨by rw [← HVV.out], belowN (hAcc.alloc (by have := hAcc.size; omega) _) _⟩)
      case rest =>
        obtain ⟨rfl, hB⟩ := hcut
        have hs1 := hB.size
        clear hB2 m0 m1 hs2
        by_cases hbad : 0 < ls.length ∧ ls.getD 0 [] ≠ [(F : Int)]
        · have hR0 := HEB.out (HNO.out hbad.1 hbad.2)
          rw [decide_eq_true hbad]
          clear H0 hbad
          replace hR0 := hide hR0
          go_wp2
          go_ret
          exact ⟨by rw [hR0.out]; rfl, hBB ▸ hB0.trans (hB.mono (by omega))⟩
        · have h0 : ls.length = 0 ∨ ls.getD 0 [] = [(F : Int)] := by
            rcases H0 with h | h | h
            · exact .inl h
            · exact absurd h hbad
            · exact .inr h.2
          rw [decide_eq_false hbad]
          have HY := hide (HYE.out h0)
          clear H0 hbad h0 HYE HNO
          have hm0 : SeenV (wc.alloc (Obj.map #[] 0)) wc.heap.size [] := SeenV.made_ rfl
          have hB2 : Below (B + 1) W1 (wc.alloc (Obj.map #[] 0)) := hB.alloc (by omega) _
          obtain ⟨M, hM⟩ : ∃ M, wc.heap.size = M := ⟨_, rfl⟩
          rw [hM] at hm0
          have hMB : B + 1 ≤ M := by omega
          go_wp2
          generalize wc.alloc (Obj.map #[] 0) = W2 at hm0 hB2 ⊢
          clear hB hs1 hM hmm
          go_loopg [9] ls.length (fun gk iv wr => ∃ k : Nat, gk = ls.length - k ∧ iv = .int .i64 k ∧ k ≤ ls.length ∧ Hid (∀ j, j < k → ∀ q, q < (ls.getD j []).length → okAt F (ls.getD j []) q = true) ∧ Hid (∀ j, j + 1 < k → ∀ q, q < (ls.getD j []).length → ∀ c, c < l → stOk rows (snL ls (j + 1)) (ls.getD (j + 1) []) ((ls.getD j []).getD q 0).toNat c = true) ∧ SeenV wr M (snL ls k) ∧ Below (B + 1) W1 wr)
          case atStart => exact ⟨0, rfl, rfl, Nat.zero_le _, hide (fun j h => absurd h (by omega)), hide (fun j h => absurd h (by omega)), hm0, hB2⟩
          case round =>
            obtain ⟨k, hgk, rfl, hk, hall, hste, hM, hB⟩ := hrel
            clear hm0 hB2
            by_cases hkl : k < ls.length
            · obtain ⟨b, o, rfl, hbl, hcell⟩ := HD.out (by omega)
              obtain ⟨D1, c1, hc1k, hr1⟩ := hcell k hkl
              rw [getD_get2 hkl] at hc1k hr1
              have hxa : (ls.getD k []).length ≤ 70 := by rw [← getD_get2 hkl]; exact HX.out _ (List.getElem_mem hkl)
              have hsn := HSL.out (k + 1)
              have HEL := hide (fun i hi h => HEB.out (HNL.out k hkl (layOk_el (rows := rows) (L := l) (ls := ls) (k := k) (i := i) hi h)))
              have hsu := snL_succ hkl
              rw [getD_get2 hkl] at hsu
              rw [HFE.out] at HEL
              have hN : Hid (0 < k → ∃ D0 c0, W1.cell? ⟨b, o + (k - 1), none⟩ = some (.slice D0 (ls.getD (k - 1) []).length c0) ∧ RowI W1 D0 (ls.getD (k - 1) []) ∧ (ls.getD (k - 1) []).length ≤ 70) := hide fun hk1 => by
                obtain ⟨D2, c2, hc2, hr2⟩ := hcell (k - 1) (by omega)
                rw [getD_get2 (by omega)] at hc2 hr2
                exact ⟨D2, c2, hc2, hr2, by rw [← getD_get2 (by omega)]; exact HX.out _ (List.getElem_mem _)⟩
              have HAL : Hid (∀ a, ls.getD k [] = a → (∀ q, q < a.length → okAt F a q = true) → ∀ j, j < k + 1 → ∀ q, q < (ls.getD j []).length → okAt F (ls.getD j []) q = true) := hide fun a ha h j hj => by
                by_cases e : j < k
                · exact hall.out j e
                · obtain rfl : j = k := by omega
                  rw [ha]; exact h
              obtain ⟨a, ha⟩ : ∃ a, ls.getD k [] = a := ⟨_, rfl⟩
              have HAK := hide ha
              rw [ha] at hc1k hr1 hxa HEL hsu
              have hsna : (snL ls k ++ natL a).length ≤ 4900 := by rw [← hsu]; exact hsn
              obtain ⟨sn, hsn0⟩ : ∃ sn, snL ls k = sn := ⟨_, rfl⟩
              rw [hsn0] at hM hsu hsna
              have HSU := hide hsu
              have HR1 := hide hr1
              have HCK := hide hc1k
              have i0 : (0 : Int) ≤ (k : Int) := by omega
              have i1 : (k : Int) < (ls.length : Int) := by omega
              have hbB : b < B + 1 := by omega
              have HM := hide hM
              have HB := hide hB
              clear hcell ha hsn0 hsu hr1 hsn hc1k hM hB
              go_wp2
              go_loopg [10] a.length (fun gi iv wr => ∃ i : Nat, gi = a.length - i ∧ iv = .int .i64 i ∧ i ≤ a.length ∧ Hid (∀ j, j < i → okAt F a j = true) ∧ SeenV wr M (sn ++ natL (a.take i)) ∧ Below (B + 1) W1 wr)
              case atStart => exact ⟨0, rfl, rfl, Nat.zero_le _, hide (fun j h => absurd h (by omega)), by simpa [natL] using HM.out, HB.out⟩
              case round =>
                obtain ⟨i, hgi, rfl, hi, hok, hM, hB⟩ := hrel
                clear HM HB
                have hs1 := hB.size
                have hcI := (hB.cell (p := ⟨b, o + k, none⟩) hbB).trans HCK.out
                by_cases hia : i < a.length
                · obtain ⟨b1, o1, e1, hb1, hcz⟩ := HR1.out (by omega)
                  subst e1
                  have hz0 := (hB.cell (p := ⟨b1, o1 + i, none⟩) (show b1 < B + 1 by omega)).trans (hcz i hia)
                  rw [getD_get hia] at hz0
                  have hzp : Hid (0 < i → wr.cell? ⟨b1, o1 + (i - 1), none⟩ = some (.int .i64 (a.getD (i - 1) 0))) := hide fun h => by
                    have := (hB.cell (p := ⟨b1, o1 + (i - 1), none⟩) (show b1 < B + 1 by omega)).trans (hcz (i - 1) (by omega))
                    rw [getD_get (by omega)] at this
                    exact this
                  have j0 : (0 : Int) ≤ (i : Int) := by omega
                  have j1 : (i : Int) < (a.length : Int) := by omega
                  have m0 := hbx.b0 hB
                  have m1 := hbx.b1 hB
                  have hla : (natL (a.take i)).length = i := by simp [natL]; omega
                  have HTK := hide (show natL (a.take (i + 1)) = natL (a.take i) ++ [(a.getD i 0).toNat] by rw [List.take_succ_eq_append_getElem hia, getD_get hia]; simp [natL])
                  have hlen2 : (sn ++ natL (a.take i)).length ≤ 1000000 := by
                    rw [List.length_append] at hsna ⊢
                    have : (natL a).length = a.length := by simp [natL]
                    omega
                  have HOK := hide (@okAt_iff F a i)
                  have HBAD := hide (fun h => HEL.out i hia (okAt_no (F := F) (a := a) (i := i) h))
                  obtain ⟨z, hz⟩ : ∃ z, a.getD i 0 = z := ⟨_, rfl⟩
                  rw [hz] at hz0 HTK HOK HBAD
                  obtain ⟨p, hp⟩ : ∃ p, a.getD (i - 1) 0 = p := ⟨_, rfl⟩
                  rw [hp] at hzp HOK HBAD
                  clear hz hp hcz hla
                  have hBd := hide hB
                  have hMd := hide hM
                  clear hB hM
                  by_cases hz1 : z < 1
                  · have hR1 := hide (HBAD.out (fun h => by have := h.1; omega))
                    clear hzp HBAD HOK
                    go_wp2
                    go_ret
                    exact ⟨by rw [hR1.out]; rfl, hBB ▸ hB0.trans (hBd.out.mono (by omega))⟩
                  · by_cases hzF : (F : Int) < z
                    · have hR1 := hide (HBAD.out (fun h => by have := h.2.1; omega))
                      clear hzp HBAD HOK
                      go_wp2_with (go_at_call 41; refine (HFU.out _).mono ?_; rintro e w3 ⟨rfl, hB3⟩)
                      go_ret
                      exact ⟨by rw [hR1.out]; rfl, hBB ▸ hB0.trans ((hBd.out.trans (hB3.mono (by omega))).mono (by omega))⟩
                    · obtain ⟨x, rfl⟩ := Int.eq_ofNat_of_zero_le (show (0 : Int) ≤ z by omega)
                      have hx64 : x < 64 := by omega
                      rw [Int.toNat_natCast] at HTK HOK HBAD
                      have HX1 := hide (fun W => zrsingle_any x W hx64)
                      cases hsg : sglB x with
                      | true =>
                        rw [hsg] at HX1
                        have hR1 := hide (HBAD.out (fun h => by have := h.2.2.1; rw [hsg] at this; cases this))
                        clear hzp HBAD HOK hsg
                        go_wp2_with (first
                          | (go_at_call 41; refine (HFU.out _).mono ?_; rintro e w3 ⟨rfl, hB3⟩)
                          | (go_at_call 44; refine (HX1.out _).mono ?_; rintro e w5 ⟨rfl, rfl⟩))
                        go_ret
                        exact ⟨by rw [hR1.out]; rfl, hBB ▸ hB0.trans ((hBd.out.trans (hB3.mono (by omega))).mono (by omega))⟩
                      | false =>
                        rw [hsg] at HX1
                        by_cases hi0 : i = 0
                        · have hib : decide ((0 : Int) < (i : Int)) = false := by simp [hi0]
                          have hib2 : ¬ (0 : Int) < (i : Int) := by omega
                          have HG := hide (HOK.out.2 ⟨by omega, by omega, hsg, fun h => absurd h (by omega)⟩)
                          clear hzp HBAD HOK hsg hi0
                          go_wp2_with (first
                            | (go_at_call 41; refine (HFU.out _).mono ?_; rintro e w3 ⟨rfl, hB3⟩; have hM3 := hMd.out.belowL hB3 (Nat.le_refl _); obtain ⟨w4, hrun, hM4, hg4⟩ := hM3.store hlen2 x (by omega))
                            | (go_at_call 44; refine (HX1.out _).mono ?_; rintro e w5 ⟨rfl, rfl⟩))
                          go_roundg (a.length - (i + 1))
                          case measure => omega
                          case rel =>
                            have hB4 := (hBd.out.trans (hB3.mono (by omega))).grown hg4 (by have := hB3.size; omega) (fun j e => by cases e; exact hMB)
                            exact ⟨i + 1, rfl, by go_num, hia, hide (fun j hj => by
                              by_cases e : j < i
                              · exact hok.out j e
                              · obtain rfl : j = i := by omega
                                exact HG.out), by rw [HTK.out, ← List.append_assoc]; exact hM4, hB4⟩
                        · have hib2 : (0 : Int) < (i : Int) := by omega
                          have hp0 := hzp.out (by omega)
                          obtain ⟨j, hj⟩ : ∃ j, j = i - 1 := ⟨_, rfl⟩
                          have hiw : IntKind.i64.wrap ((i : Int) - 1) = (j : Int) := by rw [IntWalk.i64_in _ (by omega)]; omega
                          have hi2 : (0 : Int) ≤ (j : Int) := by omega
                          have hi3 : (j : Int) < (a.length : Int) := by omega
                          rw [← hj] at hp0
                          by_cases hpz : (x : Int) ≤ p
                          · have hR1 := hide (HBAD.out (fun h => by have := h.2.2.2 (by omega); omega))
                            clear hzp HBAD HOK hsg hi0 hj
                            go_wp2_with (first
                              | (go_at_call 41; refine (HFU.out _).mono ?_; rintro e w3 ⟨rfl, hB3⟩; have hp3 := (hB3.cell (p := ⟨b1, o1 + j, none⟩) (World.block_lt_of_cell? _ _ hp0)).trans hp0; have hcI3 := (hB3.cell (p := ⟨b, o + k, none⟩) (World.block_lt_of_cell? _ _ hcI)).trans hcI)
                              | (go_at_call 44; refine (HX1.out _).mono ?_; rintro e w5 ⟨rfl, rfl⟩))
                            go_ret
                            exact ⟨by rw [hR1.out]; rfl, hBB ▸ hB0.trans ((hBd.out.trans (hB3.mono (by omega))).mono (by omega))⟩
                          · have HG := hide (HOK.out.2 ⟨by omega, by omega, hsg, fun h => by omega⟩)
                            clear hzp HBAD HOK hsg hi0 hj
                            go_wp2_with (first
                              | (go_at_call 41; refine (HFU.out _).mono ?_; rintro e w3 ⟨rfl, hB3⟩; have hp3 := (hB3.cell (p := ⟨b1, o1 + j, none⟩) (World.block_lt_of_cell? _ _ hp0)).trans hp0; have hcI3 := (hB3.cell (p := ⟨b, o + k, none⟩) (World.block_lt_of_cell? _ _ hcI)).trans hcI; have hM3 := hMd.out.belowL hB3 (Nat.le_refl _); obtain ⟨w4, hrun, hM4, hg4⟩ := hM3.store hlen2 x (by omega))
                              | (go_at_call 44; refine (HX1.out _).mono ?_; rintro e w5 ⟨rfl, rfl⟩))
                            go_roundg (a.length - (i + 1))
                            case measure => omega
                            case rel =>
                              have hB4 := (hBd.out.trans (hB3.mono (by omega))).grown hg4 (by have := hB3.size; omega) (fun j e => by cases e; exact hMB)
                              exact ⟨i + 1, rfl, by go_num, hia, hide (fun j hj => by
                                by_cases e : j < i
                                · exact hok.out j e
                                · obtain rfl : j = i := by omega
                                  exact HG.out), by rw [HTK.out, ← List.append_assoc]; exact hM4, hB4⟩
                · obtain rfl : i = a.length := by omega
                  rw [List.take_length, ← HSU.out] at hM
                  have HAL2 := hide (HAL.out a HAK.out hok.out)
                  by_cases hk0 : k = 0
                  · have hkb : ((k : Int) == 0) = true := by rw [beq_iff_eq]; omega
                    have HHk := hide hk0
                    clear hk0
                    go_wp2
                    go_roundg (ls.length - (k + 1))
                    case measure => omega
                    case rel => exact ⟨k + 1, rfl, by go_num, hkl, HAL2, hide (fun j hj => by have := HHk.out; omega), hM, hB⟩
                  · have hkb : ((k : Int) == 0) = false := by rw [beq_eq_false_iff_ne]; omega
                    obtain ⟨D0, c0, hc0, hr0, hx0⟩ := hN.out (by omega)
                    have HSTE := hide (fun S c => st_of (rows := rows) (ls := ls) (F := F) (k := k - 1) (S := S) (c := c) (by omega) (by rw [show k - 1 + 1 = k by omega, HAK.out]; exact hok.out))
                    rw [show k - 1 + 1 = k by omega] at HSTE
                    have HSTN := hide (fun q c hq hc h => HEB.out (HNL.out (k - 1) (by omega) (layOk_st (rows := rows) (L := l) (ls := ls) (k := k - 1) (i := q) (c := c) (by omega) hq hc h)))
                    rw [show k - 1 + 1 = k by omega] at HSTN
                    have HOK0 := hide (hall.out (k - 1) (by omega))
                    have HSX : Hid (∀ a0, ls.getD (k - 1) [] = a0 → (∀ q, q < a0.length → ∀ c, c < l → stOk rows (snL ls k) (ls.getD k []) (a0.getD q 0).toNat c = true) → ∀ j, j + 1 < k + 1 → ∀ q, q < (ls.getD j []).length → ∀ c, c < l → stOk rows (snL ls (j + 1)) (ls.getD (j + 1) []) ((ls.getD j []).getD q 0).toNat c = true) := hide fun a0 ha0 h j hj => by
                      by_cases e : j + 1 < k
                      · exact hste.out j e
                      · obtain rfl : j = k - 1 := by omega
                        rw [show k - 1 + 1 = k by omega, ha0]; exact h
                    obtain ⟨j, hj⟩ : ∃ j, j = k - 1 := ⟨_, rfl⟩
                    rw [← hj] at hc0 hr0 hx0 HSTN HOK0 HSX
                    obtain ⟨a0, ha0⟩ : ∃ a0, ls.getD j [] = a0 := ⟨_, rfl⟩
                    have HSX2 := hide (HSX.out a0 ha0)
                    rw [ha0] at hc0 hr0 hx0 HSTN HOK0
                    obtain ⟨SN, hSN⟩ : ∃ SN, snL ls (k + 1) = SN := ⟨_, rfl⟩
                    rw [hSN] at hM HSTE
                    obtain ⟨S0, hS0⟩ : ∃ S0, snL ls k = S0 := ⟨_, rfl⟩
                    rw [hS0] at HSTE HSTN HSX2
                    rw [HAK.out] at HSTE HSTN HSX2
                    have HSN := hide hSN
                    have HR0 := hide hr0
                    have HC0 := hide hc0
                    have hiw : IntKind.i64.wrap ((k : Int) - 1) = (j : Int) := by rw [IntWalk.i64_in _ (by omega)]; omega
                    have hi2 : (0 : Int) ≤ (j : Int) := by omega
                    have hi3 : (j : Int) < (ls.length : Int) := by omega
                    have HM := hide hM
                    have HB := hide hB
                    clear hj ha0 hSN hS0 hr0 hc0 hM hB hk0 HSX
                    go_wp2
                    go_loopg [12] a0.length (fun gi iv wr => ∃ q : Nat, gi = a0.length - q ∧ iv = .int .i64 q ∧ q ≤ a0.length ∧ Hid (∀ j, j < q → ∀ c, c < l → stOk rows S0 a (a0.getD j 0).toNat c = true) ∧ SeenV wr M SN ∧ Below (B + 1) W1 wr)
                    case atStart => exact ⟨0, rfl, rfl, Nat.zero_le _, hide (fun j h => absurd h (by omega)), HM.out, HB.out⟩
                    case round =>
                      obtain ⟨q, hgq, rfl, hq, hst, hM, hB⟩ := hrel
                      clear HM HB hcI hs1
                      have hcJ := (hB.cell (p := ⟨b, o + j, none⟩) hbB).trans HC0.out
                      by_cases hqa : q < a0.length
                      · obtain ⟨b0, o0, e0, hb0, hcz⟩ := HR0.out (by omega)
                        subst e0
                        have hcq := hcz q hqa
                        rw [getD_get hqa] at hcq
                        have hb0B : b0 < B + 1 := by omega
                        have j0 : (0 : Int) ≤ (q : Int) := by omega
                        have j1 : (q : Int) < (a0.length : Int) := by omega
                        have HOKq := okAt_iff.1 (HOK0.out q hqa)
                        have HSTq := hide (fun c hc h => HSTN.out q c hqa hc h)
                        obtain ⟨z, hz⟩ : ∃ z, a0.getD q 0 = z := ⟨_, rfl⟩
                        rw [hz] at hcq HOKq HSTq
                        have HZ := hide hz
                        obtain ⟨x, rfl⟩ := Int.eq_ofNat_of_zero_le (show (0 : Int) ≤ z by have := HOKq.1; omega)
                        have hxF : x ≤ F := by have := HOKq.2.1; omega
                        rw [Int.toNat_natCast] at HSTq
                        have HCQ := hide hcq
                        have HM := hide hM
                        have HB := hide hB
                        clear hz hcz HOKq hcq hM hB
                        go_wp2
                        go_loopg [13] l (fun gc cv wr => ∃ c : Nat, gc = l - c ∧ cv = .int .i64 c ∧ c ≤ l ∧ Hid (∀ d, d < c → stOk rows S0 a x d = true) ∧ SeenV wr M SN ∧ Below (B + 1) W1 wr)
                        case atStart => exact ⟨0, rfl, rfl, Nat.zero_le _, hide (fun j h => absurd h (by omega)), HM.out, HB.out⟩
                        case round =>
                          obtain ⟨c, hgc, rfl, hc, hsc, hM, hB⟩ := hrel
                          clear HM HB hcJ
                          have m0 := hbx.b0 hB
                          have m1 := hbx.b1 hB
                          by_cases hcL : c < l
                          · have hx64 : x < 64 := by omega
                            have hy64 : img rows x c < 64 := Nat.lt_of_lt_of_le (HA.out.img_lt hcL _) HA.out.pow
                            have HSO := hide (HSTE.out x c)
                            have HSTc := hide (fun h => HSTq.out c hcL h)
                            have HIM := hide (fun W (h : RowD W A rows) => zimage_any rows l x c A cc W HA.out hcL hx64 h)
                            obtain ⟨y, hy⟩ : ∃ y, img rows x c = y := ⟨_, rfl⟩
                            rw [hy] at hy64 HSO HIM
                            have hcJ := (hB.cell (p := ⟨b, o + j, none⟩) hbB).trans HC0.out
                            have hcQ := (hB.cell (p := ⟨b0, o0 + q, none⟩) hb0B).trans HCQ.out
                            have hs1 := hB.size
                            have n0 := hbx.b0 hB
                            have hAcc : Below (B + 1) W1 wr.drew := hB.drew
                            have hE : Below wr.heap.size wr wr.drew := (Below.refl _ _).drew
                            replace m0 : wr.drew.cell? ⟨B, 0, none⟩ = some (.int .i64 (l : Int)) := m0
                            replace m1 : wr.drew.cell? ⟨B, 1, none⟩ = some (.slice A rows.length cc) := m1
                            replace hcJ : wr.drew.cell? ⟨b, o + j, none⟩ = some (.slice (some ⟨b0, o0, none⟩) a0.length c0) := hcJ
                            replace hcQ : wr.drew.cell? ⟨b0, o0 + q, none⟩ = some (.int .i64 (x : Int)) := hcQ
                            have HM := hide hM
                            have HRW := hide (HR.out.below (hAcc.mono (Nat.le_of_eq hsz)))
                            clear hy hM hB
                            by_cases hm : y ∈ SN
                            · have HG := hide (show stOk rows S0 a x c = true by rw [HSO.out, decide_eq_true hm])
                              have HDM := hide (show decide (y ∈ SN) = true from decide_eq_true hm)
                              clear hm
                              go_wp2_with fail
                              go_region_held3 (fun W => W.cell? ⟨B, 0, none⟩ = some (.int .i64 (l : Int)) ∧ W.cell? ⟨B, 1, none⟩ = some (.slice A rows.length cc) ∧ W.cell? ⟨b, o + j, none⟩ = some (.slice (some ⟨b0, o0, none⟩) a0.length c0) ∧ W.cell? ⟨b0, o0 + q, none⟩ = some (.int .i64 (x : Int)))
                                (first | with_reducible exact ⟨m0, m1, hcJ, hcQ⟩)
                                ((go_at_call 42; (with_reducible refine (HIM.out _ HRW.out).mono ?_); rintro e w3 ⟨rfl, hX⟩; have hM3 := HM.out.belowL (hE.trans (hX.mono hE.size)) (Nat.le_refl _); have hlook := hM3.look y (by omega); rw [HDM.out] at hlook; replace hAcc := Below.go hAcc hc1 hX; replace m0 := hbx.b0 hAcc; replace m1 := hbx.b1 hAcc; replace hcJ := (hAcc.cell (p := ⟨b, o + j, none⟩) hbB).trans HC0.out; replace hcQ := (hAcc.cell (p := ⟨b0, o0 + q, none⟩) hb0B).trans HCQ.out))
                              all_goals (
                                go_wp2_with fail
                                go_roundg (l - (c + 1))
                                case measure => omega
                                case rel => exact ⟨c + 1, rfl, by go_num, hcL, hide (fun d hd => by
                                  by_cases e : d < c
                                  · exact hsc.out d e
                                  · obtain rfl : d = c := by omega
                                    exact HG.out), hM3, hAcc⟩)
                            · have hR1 := hide (HSTc.out (by rw [HSO.out, decide_eq_false hm]))
                              have HDM := hide (show decide (y ∈ SN) = false from decide_eq_false hm)
                              clear hm
                              go_wp2_with fail
                              go_region_held3 (fun W => W.cell? ⟨B, 0, none⟩ = some (.int .i64 (l : Int)) ∧ W.cell? ⟨B, 1, none⟩ = some (.slice A rows.length cc) ∧ W.cell? ⟨b, o + j, none⟩ = some (.slice (some ⟨b0, o0, none⟩) a0.length c0) ∧ W.cell? ⟨b0, o0 + q, none⟩ = some (.int .i64 (x : Int)))
                                (first | with_reducible exact ⟨m0, m1, hcJ, hcQ⟩)
                                ((go_at_call 42; (with_reducible refine (HIM.out _ HRW.out).mono ?_); rintro e w3 ⟨rfl, hX⟩; have hM3 := HM.out.belowL (hE.trans (hX.mono hE.size)) (Nat.le_refl _); have hlook := hM3.look y (by omega); rw [HDM.out] at hlook; replace hAcc := Below.go hAcc hc1 hX; replace m0 := hbx.b0 hAcc; replace m1 := hbx.b1 hAcc; replace hcJ := (hAcc.cell (p := ⟨b, o + j, none⟩) hbB).trans HC0.out; replace hcQ := (hAcc.cell (p := ⟨b0, o0 + q, none⟩) hb0B).trans HCQ.out))
                              all_goals (
                                go_wp2
                                go_ret
                                exact ⟨by rw [hR1.out]; rfl, hBB ▸ hB0.trans (hAcc.mono (by omega))⟩)
                          · obtain rfl : c = l := by omega
                            go_wp2
                            go_roundg (a0.length - (q + 1))
                            case measure => omega
                            case rel => exact ⟨q + 1, rfl, by go_num, hqa, hide (fun d hd => by
                              by_cases e : d < q
                              · exact hst.out d e
                              · obtain rfl : d = q := by omega
                                rw [HZ.out, Int.toNat_natCast]
                                exact hsc.out), hM, hB⟩
                      · obtain rfl : q = a0.length := by omega
                        go_wp2
                        go_roundg (ls.length - (k + 1))
                        case measure => omega
                        case rel => exact ⟨k + 1, rfl, by go_num, hkl, HAL2, hide (HSX2.out hst.out), by rw [HSN.out]; exact hM, hB⟩
            · obtain rfl : k = ls.length := by omega
              have hR1 := hide (HEG.out (HY.out fun j hj => layOk_yes (fun i hi => by rw [HFE.out]; exact hall.out j hj i hi) (by
                by_cases e : j + 1 = ls.length
                · exact .inl e
                · exact .inr (hste.out j (by omega)))))
              go_wp2
              go_ret
              exact ⟨by rw [hR1.out]; rfl, hBB ▸ hB0.trans (hB.mono (by omega))⟩
    · have hnn : ((ls.length : Int) != (s.size : Int)) = true := by rw [bne_iff_ne]; omega
      have HLL := hide hll
      clear hR hT hD hg h0 hA hx hck hll
      go_enter Tryd.func19, Tryd.ntmps19
      go_wp2_with fail
      generalize w.alloc (Obj.cells #[.int .i64 (l : Int), .slice A rows.length cc] 24) = W1 at hB0 HR HT HD hbx k0 k1 hsz hc1 ⊢
      go_wp2_with (go_at_call 31; refine (HV.out W1 HR.out HT.out).mono ?_; rintro e w2 ⟨rfl, hB2⟩)
      go_ret
      exact ⟨by rw [HE.out, if_neg (fun h => HLL.out h.1)]; rfl, hBB ▸ hB0.trans (hB2.mono (by omega))⟩
  · have hne : (vrf L rows s.data.toList != 0) = true := by rw [bne_iff_ne]; exact h0
    have HE := hide (show cklV L rows ls s.data.toList = vrf L rows s.data.toList by unfold cklV; rw [if_pos h0])
    clear hR hT hD hg h0 hx
    go_enter Tryd.func19, Tryd.ntmps19
    go_wp2_with fail
    generalize w.alloc (Obj.cells #[.int .i64 L, .slice A rows.length cc] 24) = W1 at hB0 HR HT HD hbx k0 k1 hsz hc1 ⊢
    go_wp2_with (go_at_call 31; refine (HV.out W1 HR.out HT.out).mono ?_; rintro e w2 ⟨rfl, hB2⟩)
    go_ret
    exact ⟨by rw [HE.out]; rfl, hBB ▸ hB0.trans (hB2.mono (by omega))⟩
end Go.Proofs.YtmokccidpnpimaaDoor
