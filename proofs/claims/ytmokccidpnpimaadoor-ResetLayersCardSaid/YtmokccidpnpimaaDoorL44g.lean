/- groovelaw44.ResetLayers: its walk. -/
import Derived.Test.YtmokccidpnpimaaDoorLw44
import Derived.Test.YtmokccidpnpimaaDoorPrvL
import Derived.Test.YtmokccidpnpimaaDoorExtP
set_option linter.unusedVariables false
namespace Go.Proofs.YtmokccidpnpimaaDoor
open Go.RowKit Go.Maps
theorem rowD_nil (w : World) (D : Option Addr) : RowD w D [] := fun h => absurd h (by simp)
theorem RowD.take_ {w : World} {D : Option Addr} {ls : List (List Int)} (h : RowD w D ls) {k : Nat} (hk : k ≤ ls.length) : RowD w D (ls.take k) := fun h0 => by
  rw [List.length_take] at h0
  obtain ⟨b, o, h1, h2, h3⟩ := h (by omega)
  refine ⟨b, o, h1, h2, fun j hj => ?_⟩
  rw [List.length_take] at hj
  obtain ⟨E, c, h4, h5⟩ := h3 j (by omega)
  rw [List.getElem_take]
  exact ⟨E, c, h4, h5⟩
theorem OutV.row2 {w : World} {B : Nat} {v : Value} {ls : List (List Int)} (h : OutV w B v ls) (h0 : 0 < ls.length) : ∃ g c, v = .slice (some ⟨g, 0, none⟩) ls.length c ∧ RowD w (some ⟨g, 0, none⟩) ls ∧ ls.length ≤ c ∧ c ≤ 9223372036854775807 := by
  obtain ⟨D, c, rfl, hD⟩ := h.row
  obtain ⟨vs, hrow, hin⟩ := h
  rcases hrow.2 with ⟨_, hz⟩ | ⟨g, cap, cur, e, hb, hg, hn, hm, hs, ht⟩
  · omega
  · simp only [Value.slice.injEq] at e
    obtain ⟨rfl, _, rfl⟩ := e
    exact ⟨g, c, rfl, hD, hn, by unfold maxLen at hm; omega⟩
set_option maxRecDepth 100000 in
set_option maxHeartbeats 8000000 in
theorem lLayers44_any (L : Int) (rows : List (List Int)) (A : Option Addr) (cc : Nat) (s : ByteArray) (w : World) (hR : RowD w A rows) (hT : TabZ w) (hb : rows.length ≤ 9223372036854775807) (hsb : s.size ≤ 9223372036854775807) :
    Calls Tryd.prog 4 #[.agg #[.int .i64 L, .slice A rows.length cc], .string s] w fun e w' => e = .returned (.bool true) ∧ Below w.heap.size w w' := by
  have hB0 : Below w.heap.size w (w.alloc (Obj.cells #[.int .i64 L, .slice A rows.length cc] 24)) := (Below.refl _ w).alloc (Nat.le_refl _) _
  have HR := hide (hR.below hB0)
  have HT := hide (hT.below hB0)
  obtain ⟨B, hBB⟩ : ∃ B, w.heap.size = B := ⟨_, rfl⟩
  have hbx : BoxA (w.alloc (Obj.cells #[.int .i64 L, .slice A rows.length cc] 24)) B L A rows.length cc := by rw [← hBB]; exact heap_alloc_new w _
  have hsz : (w.alloc (Obj.cells #[.int .i64 L, .slice A rows.length cc] 24)).heap.size = B + 1 := by rw [← hBB]; simp
  have HG := hide (fun W => great44_any rows.length L A cc W)
  have HAW := hide (fun W h => awake44_any W h)
  have HTT := hide (fun W (h : Below (B + 1) (w.alloc (Obj.cells #[.int .i64 L, .slice A rows.length cc] 24)) W) => HT.out.below (h.mono (Nat.le_of_eq hsz)))
  have HRR := hide (fun W (h : Below (B + 1) (w.alloc (Obj.cells #[.int .i64 L, .slice A rows.length cc] 24)) W) => HR.out.below (h.mono (Nat.le_of_eq hsz)))
  have HC := hide (fun W (h : RowD W A rows) => zrCheck_any L rows A cc W h hb)
  have HK := hide (fun W => rcheck_any L s W)
  have k0 := hbx.c0
  have k1 := hbx.c1
  have hc1 : B + 1 ≤ (w.alloc (Obj.cells #[.int .i64 L, .slice A rows.length cc] 24)).heap.size := by omega
  have hB := Below.refl (B + 1) (w.alloc (Obj.cells #[.int .i64 L, .slice A rows.length cc] 24))
  have m0 := hbx.b0 hB
  have m1 := hbx.b1 hB
  clear hR hT
  cases hg : grt L rows.length with
  | true =>
    rw [hg] at HG
    clear hg
    go_enter Tryd.func4, Tryd.ntmps4
    go_wp2_with fail
    generalize w.alloc (Obj.cells #[.int .i64 L, .slice A rows.length cc] 24) = W1 at hB0 HR HT HRR HTT hbx k0 k1 hsz hc1 hB m0 m1 ⊢
    go_wp2_with (first
      | (go_at_call 11; refine (HG.out _).mono ?_; rintro e w2 ⟨rfl, hX⟩; replace hB := Below.go hB hc1 hX; replace m0 := hbx.b0 hB; replace m1 := hbx.b1 hB)
      | (go_at_call 14; refine (HAW.out _ (HTT.out _ hB)).mono ?_; rintro e w3 ⟨rfl, hX⟩; replace hB := Below.go hB hc1 hX))
    go_ret
    exact ⟨rfl, hBB ▸ hB0.trans (hB.mono (by omega))⟩
  | false =>
    rw [hg] at HG
    by_cases h0 : chkA L rows = 0
    · rw [h0] at HC
      by_cases hs : s.size ≤ 8
      · by_cases hk : chk L s.data.toList = 0
        · rw [hk] at HK
          obtain ⟨l, rfl, hA⟩ := aut_of hg h0
          have hW := okw_of hk
          have hsl : s.data.toList.length = s.size := by simp
          have H1 := hide (fun W (h : RowD W A rows) (hT : TabZ W) => zShortest_any l rows A cc W hg h hT hb)
          have H2 := hide (fun W (h : RowD W A rows) (hT : TabZ W) => zLayers_any l rows A cc W hg h hT hb)
          rw [shrV_ok h0] at H1
          obtain ⟨f, is, hf⟩ : ∃ f is, first rows l (fullS rows) = (f, is) := ⟨_, _, rfl⟩
          rw [hf] at H1
          cases is with
          | true =>
            have hfo := first_from hA.L16 (by rw [hf] : (first rows l (fullS rows)).2 = true)
            have hpr := lays_prv hA (by rw [hf] : (first rows l (fullS rows)).2 = true)
            have hf64 := first_size (rows := rows) (L := l) (S := fullS rows) hA (full_lt2 rows)
            rw [hf] at hfo hpr hf64
            replace hf64 : f.size ≤ 64 := hf64
            replace hpr : prv rows l ((lays rows l f.size).map ints) = true := hpr
            have hfl : f.data.toList.length = f.size := by simp
            rw [(lay_ok h0 hf).1, (lay_ok h0 hf).2] at H2
            have hx : ∀ x ∈ (lays rows l f.size).map ints, x.length ≤ 70 := fun x hx => by
              obtain ⟨y, hy, rfl⟩ := List.mem_map.1 hx
              unfold lays at hy
              obtain ⟨j, _, rfl⟩ := List.mem_map.1 hy
              rw [ints_len]
              have := (layS_dif hA j).2.2
              omega
            have hON : ((lays rows l f.size).map ints).length = f.size := by rw [List.length_map, lays_len]
            have hvf : vrf l rows f.data.toList = 0 := vrf_ok hA h0 (by omega) hfo.1 hfo.2
            have hfs : (f ++ s).data.toList = f.data.toList ++ s.data.toList := by simp only [ByteArray.data_append, Array.toList_append]
            have hvs : vrf l rows (f ++ s).data.toList = 0 := by
              rw [hfs]
              exact vrf_ok hA h0 (by rw [List.length_append]; omega) (hfo.1.append hW) (by rw [led_append]; exact led_sgl hA (hA.led_lt (full_lt2 rows) hfo.1) hfo.2 hW)
            have hck : ∀ (ls : List (List Int)) (u : List UInt8), vrf l rows u = 0 → cklV l rows ls u = if ls.length = u.length ∧ prv rows l ls = true then 0 else 23 := fun ls u hu => by unfold cklV; rw [if_neg (by simp [hu]), Int.toNat_natCast]
            obtain ⟨O, hO⟩ : ∃ O, (lays rows l f.size).map ints = O := ⟨_, rfl⟩
            rw [hO] at hpr H2 hx hON
            have K1 := hide (fun W D dc (h : RowD W A rows) (hT : TabZ W) (hD : RowD W D O) => zCheckLayers_any l rows O f A cc D dc W hg h hT hD hb (by omega) (by omega) hx)
            rw [hck O _ hvf, if_pos ⟨by omega, hpr⟩, hON] at K1
            have K3 := hide (fun W D dc (h : RowD W A rows) (hT : TabZ W) (hD : RowD W D O) (h0 : 0 < s.size) => zCheckLayers_any l rows O (f ++ s) A cc D dc W hg h hT hD hb (by rw [ByteArray.size_append]; omega) (by omega) hx)
            rw [hck O _ hvs, hON] at K3
            have hs23 : 0 < s.size → (if f.size = (f ++ s).data.toList.length ∧ prv rows l O = true then (0 : Int) else 23) = 23 := fun h => if_neg fun e => by
              have := e.1
              rw [hfs, List.length_append] at this
              omega
            replace K3 := hide (fun (h0 : 0 < s.size) => by have := fun W D dc a b c => K3.out W D dc a b c h0; rw [hs23 h0] at this; exact this)
            by_cases hn : f.size = 0
            · have hf0 : f = ⟨#[]⟩ := ByteArray.ext (Array.eq_empty_of_size_eq_zero hn)
              subst hf0
              have hO0 : O = [] := List.eq_nil_of_length_eq_zero (by omega)
              subst hO0
              clear hg h0 hk hA hW hf hfo hpr hf64 hfl hx hON hvf hfs hvs hck hO hs23 hn
              replace K1 : Hid (∀ W (D : Option Addr) dc, RowD W A rows → TabZ W → RowD W D [] → Calls Tryd.prog 18 #[.agg #[.int .i64 (l : Int), .slice A rows.length cc], .slice D 0 dc, .string ⟨#[]⟩] W fun e w' => e = .returned (.int .i64 0) ∧ Below W.heap.size W w') := hide K1.out
              by_cases hz : s.size = 0
              · have hs0 : s = ⟨#[]⟩ := ByteArray.ext (Array.eq_empty_of_size_eq_zero hz)
                subst hs0
                clear hz K3 hsl
                go_enter Tryd.func4, Tryd.ntmps4
                go_wp2_with fail
                generalize w.alloc (Obj.cells #[.int .i64 (l : Int), .slice A rows.length cc] 24) = W1 at hB0 HR HT HRR HTT hbx k0 k1 hsz hc1 hB m0 m1 ⊢
                go_wp2_with (first
                  | (go_at_call 11; refine (HG.out _).mono ?_; rintro e w2 ⟨rfl, hX⟩; replace hB := Below.go hB hc1 hX; replace m0 := hbx.b0 hB; replace m1 := hbx.b1 hB)
                  | (go_at_call 20; (with_reducible refine (HC.out _ (HRR.out _ hB)).mono ?_); rintro e w5 ⟨rfl, hX⟩; replace hB := Below.go hB hc1 hX; replace m0 := hbx.b0 hB; replace m1 := hbx.b1 hB)
                  | (go_at_call 21; (with_reducible refine (HK.out _).mono ?_); rintro e w6 ⟨rfl, rfl⟩)
                  | (go_at_call 22; (with_reducible refine (H1.out _ (HRR.out _ hB) (HTT.out _ hB)).mono ?_); rintro e w7 ⟨rfl, hX⟩; replace hB := Below.go hB hc1 hX; replace m0 := hbx.b0 hB; replace m1 := hbx.b1 hB)
                  | (go_at_call 15; (with_reducible refine (H2.out _ (HRR.out _ hB) (HTT.out _ hB)).mono ?_); rintro e w8 ⟨v8, rfl, hO, hX⟩; replace hB := Below.go hB hc1 hX; replace m0 := hbx.b0 hB; replace m1 := hbx.b1 hB; obtain ⟨D8, c8, rfl, hR8⟩ := hO.row)
                  | (go_at_call 18; (with_reducible refine (K1.out _ D8 c8 (HRR.out _ hB) (HTT.out _ hB) (rowD_nil _ _)).mono ?_); rintro e w9 ⟨rfl, hX⟩; replace hB := Below.go hB hc1 hX; replace m0 := hbx.b0 hB; replace m1 := hbx.b1 hB))
                go_region
                replace hB : Below (B + 1) W1 w9.drew := hB.drew
                replace m0 := hbx.b0 hB
                replace m1 := hbx.b1 hB
                go_wp2_with (first
                  | (go_at_call 14; refine (HAW.out _ (HTT.out _ hB)).mono ?_; rintro e w3 ⟨rfl, hX⟩; replace hB := Below.go hB hc1 hX))
                go_ret
                exact ⟨rfl, hBB ▸ hB0.trans (hB.mono (by omega))⟩
              · replace K3 := hide (K3.out (by omega))
                replace K3 : Hid (∀ W (D : Option Addr) dc, RowD W A rows → TabZ W → RowD W D [] → Calls Tryd.prog 18 #[.agg #[.int .i64 (l : Int), .slice A rows.length cc], .slice D 0 dc, .string (⟨#[]⟩ ++ s)] W fun e w' => e = .returned (.int .i64 23) ∧ Below W.heap.size W w') := hide K3.out
                have s1 : ¬ s.toList = [] := fun h => hz (by have := congrArg List.length h; rw [ByteArray.toList_eq] at this; simpa using this)
                have s2 : s.toList.isEmpty = false := by rw [List.isEmpty_eq_false_iff]; exact s1
                have s3 : (s.toList == []) = false := by rw [beq_eq_false_iff_ne]; exact s1
                clear hz hsl
                go_enter Tryd.func4, Tryd.ntmps4
                go_wp2_with fail
                generalize w.alloc (Obj.cells #[.int .i64 (l : Int), .slice A rows.length cc] 24) = W1 at hB0 HR HT HRR HTT hbx k0 k1 hsz hc1 hB m0 m1 ⊢
                go_wp2_with (first
                  | (go_at_call 11; refine (HG.out _).mono ?_; rintro e w2 ⟨rfl, hX⟩; replace hB := Below.go hB hc1 hX; replace m0 := hbx.b0 hB; replace m1 := hbx.b1 hB)
                  | (go_at_call 20; (with_reducible refine (HC.out _ (HRR.out _ hB)).mono ?_); rintro e w5 ⟨rfl, hX⟩; replace hB := Below.go hB hc1 hX; replace m0 := hbx.b0 hB; replace m1 := hbx.b1 hB)
                  | (go_at_call 21; (with_reducible refine (HK.out _).mono ?_); rintro e w6 ⟨rfl, rfl⟩)
                  | (go_at_call 22; (with_reducible refine (H1.out _ (HRR.out _ hB) (HTT.out _ hB)).mono ?_); rintro e w7 ⟨rfl, hX⟩; replace hB := Below.go hB hc1 hX; replace m0 := hbx.b0 hB; replace m1 := hbx.b1 hB)
                  | (go_at_call 15; (with_reducible refine (H2.out _ (HRR.out _ hB) (HTT.out _ hB)).mono ?_); rintro e w8 ⟨v8, rfl, hO, hX⟩; replace hB := Below.go hB hc1 hX; replace m0 := hbx.b0 hB; replace m1 := hbx.b1 hB; obtain ⟨D8, c8, rfl, hR8⟩ := hO.row)
                  | (go_at_call 18; (with_reducible refine (K1.out _ D8 c8 (HRR.out _ hB) (HTT.out _ hB) (rowD_nil _ _)).mono ?_); rintro e w9 ⟨rfl, hX⟩; replace hB := Below.go hB hc1 hX; replace m0 := hbx.b0 hB; replace m1 := hbx.b1 hB))
                go_region
                replace hB : Below (B + 1) W1 w9.drew := hB.drew
                replace m0 := hbx.b0 hB
                replace m1 := hbx.b1 hB
                go_wp2_with (first
                  | (go_at_call 18; (with_reducible refine (K3.out _ D8 c8 (HRR.out _ hB) (HTT.out _ hB) (rowD_nil _ _)).mono ?_); rintro e wc ⟨rfl, hX⟩; replace hB := Below.go hB hc1 hX; replace m0 := hbx.b0 hB; replace m1 := hbx.b1 hB)
                  | (go_at_call 14; refine (HAW.out _ (HTT.out _ hB)).mono ?_; rintro e w3 ⟨rfl, hX⟩; replace hB := Below.go hB hc1 hX))
                go_ret
                exact ⟨rfl, hBB ▸ hB0.trans (hB.mono (by omega))⟩
            · obtain ⟨k, hk1⟩ : ∃ k, f.size = k + 1 := ⟨f.size - 1, by omega⟩
              have K2 := hide (fun W D dc (h : RowD W A rows) (hT : TabZ W) (hD : RowD W D O) => zCheckLayers_any l rows (O.take k) f A cc D dc W hg h hT (hD.take_ (by omega)) hb (by omega) (by rw [List.length_take]; omega) (fun x h => hx x (List.mem_of_mem_take h)))
              rw [hck (O.take k) _ hvf, if_neg (fun e => by have := e.1; rw [List.length_take] at this; omega), List.length_take, Nat.min_eq_left (by omega)] at K2
              have hpos : 0 < O.length := by omega
              have i1 : IntKind.i64.wrap ((f.size : Int) - 1) = (k : Int) := by rw [IntWalk.i64_in _ (by omega)]; omega
              have i2 : (0 : Int) ≤ (k : Int) := by omega
              have i3 : (k : Int) ≤ (f.size : Int) := by omega
              have i4 : ((k : Nat) : Int).toNat = k := Int.toNat_natCast k
              have i5 : decide ((0 : Int) < (f.size : Int)) = true := decide_eq_true (by omega)
              have i6 : decide (0 < f.size) = true := decide_eq_true (by omega)
              have i7 : k ≤ f.size := by omega
              clear hg h0 hk hA hW hf hfo hpr hfl hx hvf hfs hvs hck hO hs23 hn hk1
              by_cases hz : s.size = 0
              · have hs0 : s = ⟨#[]⟩ := ByteArray.ext (Array.eq_empty_of_size_eq_zero hz)
                subst hs0
                clear hz K3 hsl
                go_enter Tryd.func4, Tryd.ntmps4
                go_wp2_with fail
                generalize w.alloc (Obj.cells #[.int .i64 (l : Int), .slice A rows.length cc] 24) = W1 at hB0 HR HT HRR HTT hbx k0 k1 hsz hc1 hB m0 m1 ⊢
                go_wp2_with (first
                  | (go_at_call 11; refine (HG.out _).mono ?_; rintro e w2 ⟨rfl, hX⟩; replace hB := Below.go hB hc1 hX; replace m0 := hbx.b0 hB; replace m1 := hbx.b1 hB)
                  | (go_at_call 20; (with_reducible refine (HC.out _ (HRR.out _ hB)).mono ?_); rintro e w5 ⟨rfl, hX⟩; replace hB := Below.go hB hc1 hX; replace m0 := hbx.b0 hB; replace m1 := hbx.b1 hB)
                  | (go_at_call 21; (with_reducible refine (HK.out _).mono ?_); rintro e w6 ⟨rfl, rfl⟩)
                  | (go_at_call 22; (with_reducible refine (H1.out _ (HRR.out _ hB) (HTT.out _ hB)).mono ?_); rintro e w7 ⟨rfl, hX⟩; replace hB := Below.go hB hc1 hX; replace m0 := hbx.b0 hB; replace m1 := hbx.b1 hB)
                  | (go_at_call 15; (with_reducible refine (H2.out _ (HRR.out _ hB) (HTT.out _ hB)).mono ?_); rintro e w8 ⟨v8, rfl, hO, hX⟩; replace hB := Below.go hB hc1 hX; replace m0 := hbx.b0 hB; replace m1 := hbx.b1 hB; obtain ⟨g8, c8, rfl, hR8, hc8, hm8⟩ := hO.row2 hpos; rw [hON] at hc8 ⊢; have j1 : (k : Int) ≤ (c8 : Int) := (by omega); have j2 : k ≤ c8 := (by omega); have HR8 := hide hR8; clear hR8 hO; have hE := Below.refl w8.heap.size w8)
                  | (go_at_call 18; (with_reducible refine (K1.out _ (some ⟨g8, 0, none⟩) c8 (HRR.out _ hB) (HTT.out _ hB) (HR8.out.below hE)).mono ?_); rintro e w9 ⟨rfl, hX⟩; replace hB := Below.go hB hc1 hX; replace m0 := hbx.b0 hB; replace m1 := hbx.b1 hB; replace hE := hE.trans (hX.mono hE.size)))
                have hAcc : Below (B + 1) W1 w9.drew := hB.drew
                replace m0 : w9.drew.cell? ⟨B, 0, none⟩ = some (.int .i64 (l : Int)) := m0
                replace m1 : w9.drew.cell? ⟨B, 1, none⟩ = some (.slice A rows.length cc) := m1
                have hE2 : Below w8.heap.size w8 w9.drew := hE.drew
                go_region_held3 (fun W => W.cell? ⟨B, 0, none⟩ = some (.int .i64 (l : Int)) ∧ W.cell? ⟨B, 1, none⟩ = some (.slice A rows.length cc))
                  (first | with_reducible exact ⟨m0, m1⟩)
                  ((go_at_call 18; (with_reducible refine (K2.out _ (some ⟨g8, 0, none⟩) c8 (HRR.out _ hAcc) (HTT.out _ hAcc) (HR8.out.below hE2)).mono ?_); rintro e wb ⟨rfl, hX⟩; replace hAcc := Below.go hAcc hc1 hX; replace m0 := hbx.b0 hAcc; replace m1 := hbx.b1 hAcc; replace hE2 := hE2.trans (hX.mono hE2.size)))
                all_goals (
                  replace hB := hAcc
                  replace hE := hE2
                  go_wp2_with (first
                    | (go_at_call 14; refine (HAW.out _ (HTT.out _ hB)).mono ?_; rintro e w3 ⟨rfl, hX⟩; replace hB := Below.go hB hc1 hX))
                  go_ret
                  exact ⟨rfl, hBB ▸ hB0.trans (hB.mono (by omega))⟩)
              · replace K3 := hide (K3.out (by omega))
                have s1 : ¬ s.toList = [] := fun h => hz (by have := congrArg List.length h; rw [ByteArray.toList_eq] at this; simpa using this)
                have s2 : s.toList.isEmpty = false := by rw [List.isEmpty_eq_false_iff]; exact s1
                have s3 : (s.toList == []) = false := by rw [beq_eq_false_iff_ne]; exact s1
                clear hz hsl
                go_enter Tryd.func4, Tryd.ntmps4
                go_wp2_with fail
                generalize w.alloc (Obj.cells #[.int .i64 (l : Int), .slice A rows.length cc] 24) = W1 at hB0 HR HT HRR HTT hbx k0 k1 hsz hc1 hB m0 m1 ⊢
                go_wp2_with (first
                  | (go_at_call 11; refine (HG.out _).mono ?_; rintro e w2 ⟨rfl, hX⟩; replace hB := Below.go hB hc1 hX; replace m0 := hbx.b0 hB; replace m1 := hbx.b1 hB)
                  | (go_at_call 20; (with_reducible refine (HC.out _ (HRR.out _ hB)).mono ?_); rintro e w5 ⟨rfl, hX⟩; replace hB := Below.go hB hc1 hX; replace m0 := hbx.b0 hB; replace m1 := hbx.b1 hB)
                  | (go_at_call 21; (with_reducible refine (HK.out _).mono ?_); rintro e w6 ⟨rfl, rfl⟩)
                  | (go_at_call 22; (with_reducible refine (H1.out _ (HRR.out _ hB) (HTT.out _ hB)).mono ?_); rintro e w7 ⟨rfl, hX⟩; replace hB := Below.go hB hc1 hX; replace m0 := hbx.b0 hB; replace m1 := hbx.b1 hB)
                  | (go_at_call 15; (with_reducible refine (H2.out _ (HRR.out _ hB) (HTT.out _ hB)).mono ?_); rintro e w8 ⟨v8, rfl, hO, hX⟩; replace hB := Below.go hB hc1 hX; replace m0 := hbx.b0 hB; replace m1 := hbx.b1 hB; obtain ⟨g8, c8, rfl, hR8, hc8, hm8⟩ := hO.row2 hpos; rw [hON] at hc8 ⊢; have j1 : (k : Int) ≤ (c8 : Int) := (by omega); have j2 : k ≤ c8 := (by omega); have HR8 := hide hR8; clear hR8 hO; have hE := Below.refl w8.heap.size w8)
                  | (go_at_call 18; (with_reducible refine (K1.out _ (some ⟨g8, 0, none⟩) c8 (HRR.out _ hB) (HTT.out _ hB) (HR8.out.below hE)).mono ?_); rintro e w9 ⟨rfl, hX⟩; replace hB := Below.go hB hc1 hX; replace m0 := hbx.b0 hB; replace m1 := hbx.b1 hB; replace hE := hE.trans (hX.mono hE.size)))
                have hAcc : Below (B + 1) W1 w9.drew := hB.drew
                replace m0 : w9.drew.cell? ⟨B, 0, none⟩ = some (.int .i64 (l : Int)) := m0
                replace m1 : w9.drew.cell? ⟨B, 1, none⟩ = some (.slice A rows.length cc) := m1
                have hE2 : Below w8.heap.size w8 w9.drew := hE.drew
                go_region_held3 (fun W => W.cell? ⟨B, 0, none⟩ = some (.int .i64 (l : Int)) ∧ W.cell? ⟨B, 1, none⟩ = some (.slice A rows.length cc))
                  (first | with_reducible exact ⟨m0, m1⟩)
                  ((go_at_call 18; (with_reducible refine (K2.out _ (some ⟨g8, 0, none⟩) c8 (HRR.out _ hAcc) (HTT.out _ hAcc) (HR8.out.below hE2)).mono ?_); rintro e wb ⟨rfl, hX⟩; replace hAcc := Below.go hAcc hc1 hX; replace m0 := hbx.b0 hAcc; replace m1 := hbx.b1 hAcc; replace hE2 := hE2.trans (hX.mono hE2.size)))
                all_goals (
                  replace hB := hAcc
                  replace hE := hE2
                  go_wp2_with (first
                    | (go_at_call 18; (with_reducible refine (K3.out _ (some ⟨g8, 0, none⟩) c8 (HRR.out _ hB) (HTT.out _ hB) (HR8.out.below hE)).mono ?_); rintro e wc ⟨rfl, hX⟩; replace hB := Below.go hB hc1 hX; replace m0 := hbx.b0 hB; replace m1 := hbx.b1 hB; replace hE := hE.trans (hX.mono hE.size))
                    | (go_at_call 14; refine (HAW.out _ (HTT.out _ hB)).mono ?_; rintro e w3 ⟨rfl, hX⟩; replace hB := Below.go hB hc1 hX))
                  go_ret
                  exact ⟨rfl, hBB ▸ hB0.trans (hB.mono (by omega))⟩)
          | false =>
            rw [(lay_no h0 hf).1, (lay_no h0 hf).2] at H2
            clear hg h0 hk hA hW hf hsl
            go_enter Tryd.func4, Tryd.ntmps4
            go_wp2_with fail
            generalize w.alloc (Obj.cells #[.int .i64 (l : Int), .slice A rows.length cc] 24) = W1 at hB0 HR HT HRR HTT hbx k0 k1 hsz hc1 hB m0 m1 ⊢
            go_wp2_with (first
              | (go_at_call 11; refine (HG.out _).mono ?_; rintro e w2 ⟨rfl, hX⟩; replace hB := Below.go hB hc1 hX; replace m0 := hbx.b0 hB; replace m1 := hbx.b1 hB)
              | (go_at_call 20; (with_reducible refine (HC.out _ (HRR.out _ hB)).mono ?_); rintro e w5 ⟨rfl, hX⟩; replace hB := Below.go hB hc1 hX; replace m0 := hbx.b0 hB; replace m1 := hbx.b1 hB)
              | (go_at_call 21; (with_reducible refine (HK.out _).mono ?_); rintro e w6 ⟨rfl, rfl⟩)
              | (go_at_call 22; (with_reducible refine (H1.out _ (HRR.out _ hB) (HTT.out _ hB)).mono ?_); rintro e w7 ⟨rfl, hX⟩; replace hB := Below.go hB hc1 hX; replace m0 := hbx.b0 hB; replace m1 := hbx.b1 hB)
              | (go_at_call 15; (with_reducible refine (H2.out _ (HRR.out _ hB) (HTT.out _ hB)).mono ?_); rintro e w8 ⟨v8, rfl, hO, hX⟩; replace hB := Below.go hB hc1 hX; replace m0 := hbx.b0 hB; replace m1 := hbx.b1 hB; obtain ⟨D8, c8, rfl, hR8⟩ := hO.row)
              | (go_at_call 14; refine (HAW.out _ (HTT.out _ hB)).mono ?_; rintro e w3 ⟨rfl, hX⟩; replace hB := Below.go hB hc1 hX))
            go_ret
            exact ⟨rfl, hBB ▸ hB0.trans (hB.mono (by omega))⟩
        · have hne : (chk L s.data.toList != 0) = true := by rw [bne_iff_ne]; exact hk
          clear hg h0 hk
          go_enter Tryd.func4, Tryd.ntmps4
          go_wp2_with fail
          generalize w.alloc (Obj.cells #[.int .i64 L, .slice A rows.length cc] 24) = W1 at hB0 HR HT HRR HTT hbx k0 k1 hsz hc1 hB m0 m1 ⊢
          go_wp2_with (first
            | (go_at_call 11; refine (HG.out _).mono ?_; rintro e w2 ⟨rfl, hX⟩; replace hB := Below.go hB hc1 hX; replace m0 := hbx.b0 hB; replace m1 := hbx.b1 hB)
            | (go_at_call 20; (with_reducible refine (HC.out _ (HRR.out _ hB)).mono ?_); rintro e w5 ⟨rfl, hX⟩; replace hB := Below.go hB hc1 hX; replace m0 := hbx.b0 hB; replace m1 := hbx.b1 hB)
            | (go_at_call 21; (with_reducible refine (HK.out _).mono ?_); rintro e w6 ⟨rfl, rfl⟩)
            | (go_at_call 14; refine (HAW.out _ (HTT.out _ hB)).mono ?_; rintro e w3 ⟨rfl, hX⟩; replace hB := Below.go hB hc1 hX))
          go_ret
          exact ⟨rfl, hBB ▸ hB0.trans (hB.mono (by omega))⟩
      · have hs2 : 8 < s.size := by omega
        clear hg h0 hs
        go_enter Tryd.func4, Tryd.ntmps4
        go_wp2_with fail
        generalize w.alloc (Obj.cells #[.int .i64 L, .slice A rows.length cc] 24) = W1 at hB0 HR HT HRR HTT hbx k0 k1 hsz hc1 hB m0 m1 ⊢
        go_wp2_with (first
          | (go_at_call 11; refine (HG.out _).mono ?_; rintro e w2 ⟨rfl, hX⟩; replace hB := Below.go hB hc1 hX; replace m0 := hbx.b0 hB; replace m1 := hbx.b1 hB)
          | (go_at_call 20; (with_reducible refine (HC.out _ (HRR.out _ hB)).mono ?_); rintro e w5 ⟨rfl, hX⟩; replace hB := Below.go hB hc1 hX; replace m0 := hbx.b0 hB; replace m1 := hbx.b1 hB)
          | (go_at_call 14; refine (HAW.out _ (HTT.out _ hB)).mono ?_; rintro e w3 ⟨rfl, hX⟩; replace hB := Below.go hB hc1 hX))
        go_ret
        exact ⟨rfl, hBB ▸ hB0.trans (hB.mono (by omega))⟩
    · have hne : (chkA L rows != 0) = true := by rw [bne_iff_ne]; exact h0
      clear hg h0
      go_enter Tryd.func4, Tryd.ntmps4
      go_wp2_with fail
      generalize w.alloc (Obj.cells #[.int .i64 L, .slice A rows.length cc] 24) = W1 at hB0 HR HT HRR HTT hbx k0 k1 hsz hc1 hB m0 m1 ⊢
      go_wp2_with (first
        | (go_at_call 11; refine (HG.out _).mono ?_; rintro e w2 ⟨rfl, hX⟩; replace hB := Below.go hB hc1 hX; replace m0 := hbx.b0 hB; replace m1 := hbx.b1 hB)
        | (go_at_call 20; (with_reducible refine (HC.out _ (HRR.out _ hB)).mono ?_); rintro e w5 ⟨rfl, hX⟩; replace hB := Below.go hB hc1 hX; replace m0 := hbx.b0 hB; replace m1 := hbx.b1 hB)
        | (go_at_call 14; refine (HAW.out _ (HTT.out _ hB)).mono ?_; rintro e w3 ⟨rfl, hX⟩; replace hB := Below.go hB hc1 hX))
      go_ret
      exact ⟨rfl, hBB ▸ hB0.trans (hB.mono (by omega))⟩
end Go.Proofs.YtmokccidpnpimaaDoor
