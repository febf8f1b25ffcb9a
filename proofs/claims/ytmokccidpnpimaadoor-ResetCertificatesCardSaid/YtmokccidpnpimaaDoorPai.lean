/- Pairs of both sides. -/
import Derived.Test.YtmokccidpnpimaaDoorShr
import Derived.Deep.RegionHeld3
set_option linter.unusedVariables false
namespace Go.Proofs.YtmokccidpnpimaaDoor
open Go.RowKit Go.Maps
/-- each two states can be brought together -/
def prB (rows : List (List Int)) (L : Nat) : Bool := decide (∀ s, s < rows.length → ∀ t, t < s → (first rows L (2 ^ s ||| 2 ^ t)).2 = true)
theorem prB_yes {rows : List (List Int)} {L : Nat} (h : ∀ s, s < rows.length → ∀ t, t < s → (first rows L (2 ^ s ||| 2 ^ t)).2 = true) : prB rows L = true := decide_eq_true h
theorem prB_no {rows : List (List Int)} {L s t : Nat} (hs : s < rows.length) (ht : t < s) (h : (first rows L (2 ^ s ||| 2 ^ t)).2 = false) : prB rows L = false :=
  decide_eq_false fun hh => by have := hh s hs t ht; rw [h] at this; cases this
def prsV (L : Int) (rows : List (List Int)) : Value := if chkA L rows = 0 then .tuple #[.bool (prB rows L.toNat), .int .i64 0] else .tuple #[.bool false, .int .i64 1]
theorem prsV_ok {L : Nat} {rows : List (List Int)} (h : chkA L rows = 0) : prsV L rows = .tuple #[.bool (prB rows L), .int .i64 0] := by unfold prsV; rw [if_pos h]; rfl
theorem prsV_bad {L : Int} {rows : List (List Int)} (h : chkA L rows ≠ 0) : prsV L rows = .tuple #[.bool false, .int .i64 1] := by unfold prsV; rw [if_neg h]
theorem pairI : ∀ s, s < 6 → ∀ t, t < 6 → bits BinOp.or IntKind.i64 (IntKind.i64.wrap (2 ^ s)) (IntKind.i64.wrap (2 ^ t)) = ((2 ^ s ||| 2 ^ t : Nat) : Int) := by decide +kernel
theorem pair_lt {n s t : Nat} (hs : s < n) (ht : t < n) : 2 ^ s ||| 2 ^ t < 2 ^ n := Nat.or_lt_two_pow (Nat.pow_lt_pow_right (by decide) hs) (Nat.pow_lt_pow_right (by decide) ht)
set_option maxRecDepth 100000 in
set_option maxHeartbeats 4000000 in
theorem zPairs_any (L : Int) (rows : List (List Int)) (A : Option Addr) (cc : Nat) (w : World) (hg : grt L rows.length = false) (hR : RowD w A rows) (hT : TabZ w) (hb : rows.length ≤ 9223372036854775807) :
    Calls Tryd.prog 25 #[.agg #[.int .i64 L, .slice A rows.length cc]] w fun e w' => e = .returned (prsV L rows) ∧ Below w.heap.size w w' := by
  have hB0 : Below w.heap.size w (w.alloc (Obj.cells #[.int .i64 L, .slice A rows.length cc] 24)) := (Below.refl _ w).alloc (Nat.le_refl _) _
  have HR := hide (hR.below hB0)
  have HT := hide (hT.below hB0)
  obtain ⟨B, hBB⟩ : ∃ B, w.heap.size = B := ⟨_, rfl⟩
  have hbx : BoxA (w.alloc (Obj.cells #[.int .i64 L, .slice A rows.length cc] 24)) B L A rows.length cc := by rw [← hBB]; exact heap_alloc_new w _
  have k0 := hbx.c0
  have k1 := hbx.c1
  have hsz : (w.alloc (Obj.cells #[.int .i64 L, .slice A rows.length cc] 24)).heap.size = B + 1 := by rw [← hBB]; simp
  have HC := hide (fun W (h : RowD W A rows) => zCheck_any L rows A cc W h hb)
  by_cases h0 : chkA L rows = 0
  · obtain ⟨l, rfl, hA⟩ := aut_of hg h0
    rw [prsV_ok h0]
    rw [h0] at HC
    have hn := hA.n6
    have HS := hide (fun S W (hS : S < 2 ^ rows.length) (h : RowD W A rows) (hT : TabZ W) => zsearch_any rows l S A cc W hA hS h hT)
    have HY := hide (@prB_yes rows l)
    have HN := hide (fun s t => @prB_no rows l s t)
    generalize prB rows l = R at HY HN ⊢
    clear hR hT hg h0 hA
    go_enter Tryd.func25, Tryd.ntmps25
    go_wp2_with fail
    generalize w.alloc (Obj.cells #[.int .i64 (l : Int), .slice A rows.length cc] 24) = W1 at hB0 HR HT hbx k0 k1 hsz ⊢
    have lB : B < W1.heap.size := by omega
    go_wp2_with (go_at_call 29; refine (HC.out W1 HR.out).mono ?_; rintro e w2 ⟨rfl, hB2⟩; have m1 := (hB2.cell (p := ⟨B, 1, none⟩) lB).trans k1)
    replace hB2 : Below (B + 1) W1 w2 := hB2.mono (Nat.le_of_eq hsz.symm)
    clear m1
    go_loopg [14] rows.length (fun gk sv wr => ∃ s : Nat, gk = rows.length - s ∧ sv = .int .i64 s ∧ s ≤ rows.length ∧ Hid (∀ j, j < s → ∀ t, t < j → (first rows l (2 ^ j ||| 2 ^ t)).2 = true) ∧ Below (B + 1) W1 wr)
    case atStart => exact ⟨0, rfl, rfl, Nat.zero_le _, hide (fun j h => absurd h (by omega)), hB2⟩
    case round =>
      obtain ⟨s, hgk, rfl, hs, hall, hB⟩ := hrel
      by_cases hlt : s < rows.length
      · go_wp2_with fail
        go_loopg [18] s (fun gt tv wr => ∃ t : Nat, gt = s - t ∧ tv = .int .i64 t ∧ t ≤ s ∧ Hid (∀ j, j < t → (first rows l (2 ^ s ||| 2 ^ j)).2 = true) ∧ Below (B + 1) W1 wr)
        case atStart => exact ⟨0, rfl, rfl, Nat.zero_le _, hide (fun j h => absurd h (by omega)), hB⟩
        case round =>
          obtain ⟨t, hgt, rfl, ht, hal2, hB⟩ := hrel
          have hbx7 : BoxA wr B l A rows.length cc := (hB.block B (Nat.lt_succ_self B)).trans hbx
          by_cases hts : t < s
          · obtain ⟨z, hz⟩ : ∃ z, 2 ^ s ||| 2 ^ t = z := ⟨_, rfl⟩
            have hzl : z < 2 ^ rows.length := by rw [← hz]; exact pair_lt hlt (by omega)
            have e3 : bits BinOp.or IntKind.i64 (IntKind.i64.wrap (2 ^ s)) (IntKind.i64.wrap (2 ^ t)) = (z : Int) := by rw [← hz]; exact pairI s (by omega) t (by omega)
            have HNs := hide (HN.out s t hlt hts)
            have HRW := hide hz
            rw [hz] at HNs
            obtain ⟨v, u, hvu⟩ : ∃ v u, first rows l z = (v, u) := ⟨_, _, rfl⟩
            rw [hvu] at HNs
            have HSP : Hid (∀ W, Below (B + 1) W1 W → Calls Tryd.prog 46 #[.agg #[.int .i64 l, .slice A rows.length cc], .int .i64 (bits BinOp.or IntKind.i64 (IntKind.i64.wrap (2 ^ s)) (IntKind.i64.wrap (2 ^ t)))] W fun e w' => e = .returned (.tuple #[.string v, .bool u]) ∧ Below W.heap.size W w') := hide fun W hW => by
              have := HS.out z W hzl (HR.out.below (hW.mono (Nat.le_of_eq hsz))) (HT.out.below (hW.mono (Nat.le_of_eq hsz)))
              rw [hvu] at this
              rw [e3]
              exact this
            have HVU := hide hvu
            have hAcc : Below (B + 1) W1 wr.drew := hB.drew
            have m0 : wr.drew.cell? ⟨B, 0, none⟩ = some (.int .i64 l) := hbx7.c0
            have m1 : wr.drew.cell? ⟨B, 1, none⟩ = some (.slice A rows.length cc) := hbx7.c1
            have hs0 : (0 : Int) ≤ (s : Int) := by omega
            have ht0 : (0 : Int) ≤ (t : Int) := by omega
            have hs63 : ¬ (63 : Int) < (s : Int) := by omega
            have ht63 : ¬ (63 : Int) < (t : Int) := by omega
            have hs1 := hAcc.size
            clear hz hvu hbx7 hB e3
            cases u with
            | true =>
              go_wp2_with fail
              go_region_held3 (fun W => W.cell? ⟨B, 0, none⟩ = some (.int .i64 l) ∧ W.cell? ⟨B, 1, none⟩ = some (.slice A rows.length cc))
                (first | with_reducible exact ⟨m0, m1⟩)
                ((go_at_call 46; (with_reducible refine (HSP.out _ hAcc).mono ?_); rintro e w4 ⟨rfl, hB4⟩; replace hAcc := hAcc.trans (hB4.mono (by omega)); replace m0 := (hB4.cell (p := ⟨B, 0, none⟩) (World.block_lt_of_cell? _ _ m0)).trans m0; replace m1 := (hB4.cell (p := ⟨B, 1, none⟩) (World.block_lt_of_cell? _ _ m1)).trans m1))
              go_wp2_with fail
              go_roundg (s - (t + 1))
              case measure => omega
              case rel => exact ⟨t + 1, rfl, by go_num, hts, hide (fun j hj => by
                by_cases e : j < t
                · exact hal2.out j e
                · obtain rfl : j = t := by omega
                  rw [HRW.out, HVU.out]), hAcc⟩
            | false =>
              have hR1 := hide (HNs.out rfl)
              go_wp2_with fail
              go_region_held3 (fun W => W.cell? ⟨B, 0, none⟩ = some (.int .i64 l) ∧ W.cell? ⟨B, 1, none⟩ = some (.slice A rows.length cc))
                (first | with_reducible exact ⟨m0, m1⟩)
                ((go_at_call 46; (with_reducible refine (HSP.out _ hAcc).mono ?_); rintro e w4 ⟨rfl, hB4⟩; replace hAcc := hAcc.trans (hB4.mono (by omega)); replace m0 := (hB4.cell (p := ⟨B, 0, none⟩) (World.block_lt_of_cell? _ _ m0)).trans m0; replace m1 := (hB4.cell (p := ⟨B, 1, none⟩) (World.block_lt_of_cell? _ _ m1)).trans m1))
              go_wp2
              go_ret2
              exact ⟨by rw [hR1.out]; rfl, hBB ▸ hB0.trans (hAcc.mono (by omega))⟩
          · obtain rfl : t = s := by omega
            go_wp2
            go_roundg (rows.length - (t + 1))
            case measure => omega
            case rel => exact ⟨t + 1, rfl, by go_num, hlt, hide (fun j hj => by
              by_cases e : j < t
              · exact hall.out j e
              · obtain rfl : j = t := by omega
                exact hal2.out), hB⟩
      · obtain rfl : s = rows.length := by omega
        have hR1 := hide (HY.out hall.out)
        go_wp2
        go_ret2
        exact ⟨by rw [hR1.out]; rfl, hBB ▸ hB0.trans (hB.mono (by omega))⟩
  · have hne : (chkA L rows != 0) = true := by rw [bne_iff_ne]; exact h0
    rw [prsV_bad h0]
    clear hR hT hbx
    go_enter Tryd.func25, Tryd.ntmps25
    go_wp2_with fail
    generalize w.alloc (Obj.cells #[.int .i64 L, .slice A rows.length cc] 24) = W1 at hB0 HR HT k0 k1 hsz ⊢
    go_wp2_with (go_at_call 29; refine (HC.out W1 HR.out).mono ?_; rintro e w2 ⟨rfl, hB2⟩)
    go_ret2
    exact ⟨rfl, hBB ▸ hB0.trans (hB2.mono (by omega))⟩
theorem prB_yes2 {rows : List (List Int)} {L : Nat} (h : ∀ s, s < rows.length → ∀ t, s < t → t < rows.length → (first rows L (2 ^ s ||| 2 ^ t)).2 = true) : prB rows L = true := prB_yes fun s hs t ht => by
  rw [Nat.or_comm]; exact h t (by omega) s ht hs
theorem prB_no2 {rows : List (List Int)} {L s t : Nat} (hs : s < t) (ht : t < rows.length) (h : (first rows L (2 ^ s ||| 2 ^ t)).2 = false) : prB rows L = false :=
  prB_no ht hs (by rw [Nat.or_comm]; exact h)
set_option maxRecDepth 100000 in
set_option maxHeartbeats 4000000 in
theorem zrPairs_any (L : Int) (rows : List (List Int)) (A : Option Addr) (cc : Nat) (w : World) (hg : grt L rows.length = false) (hR : RowD w A rows) (hT : TabZ w) (hb : rows.length ≤ 9223372036854775807) :
    Calls Tryd.prog 33 #[.agg #[.int .i64 L, .slice A rows.length cc]] w fun e w' => e = .returned (prsV L rows) ∧ Below w.heap.size w w' := by
  have hB0 : Below w.heap.size w (w.alloc (Obj.cells #[.int .i64 L, .slice A rows.length cc] 24)) := (Below.refl _ w).alloc (Nat.le_refl _) _
  have HR := hide (hR.below hB0)
  have HT := hide (hT.below hB0)
  obtain ⟨B, hBB⟩ : ∃ B, w.heap.size = B := ⟨_, rfl⟩
  have hbx : BoxA (w.alloc (Obj.cells #[.int .i64 L, .slice A rows.length cc] 24)) B L A rows.length cc := by rw [← hBB]; exact heap_alloc_new w _
  have k0 := hbx.c0
  have k1 := hbx.c1
  have hsz : (w.alloc (Obj.cells #[.int .i64 L, .slice A rows.length cc] 24)).heap.size = B + 1 := by rw [← hBB]; simp
  have HC := hide (fun W (h : RowD W A rows) => zrCheck_any L rows A cc W h hb)
  by_cases h0 : chkA L rows = 0
  · obtain ⟨l, rfl, hA⟩ := aut_of hg h0
    rw [prsV_ok h0]
    rw [h0] at HC
    have hn := hA.n6
    have HS := hide (fun S W (hS : S < 2 ^ rows.length) (h : RowD W A rows) (hT : TabZ W) => zfirst_any rows l S A cc W hA hS h)
    have HY := hide (@prB_yes2 rows l)
    have HN := hide (fun s t => @prB_no2 rows l s t)
    generalize prB rows l = R at HY HN ⊢
    clear hR hT hg h0 hA
    go_enter Tryd.func33, Tryd.ntmps33
    go_wp2_with fail
    generalize w.alloc (Obj.cells #[.int .i64 (l : Int), .slice A rows.length cc] 24) = W1 at hB0 HR HT hbx k0 k1 hsz ⊢
    have lB : B < W1.heap.size := by omega
    go_wp2_with (go_at_call 20; refine (HC.out W1 HR.out).mono ?_; rintro e w2 ⟨rfl, hB2⟩; have m1 := (hB2.cell (p := ⟨B, 1, none⟩) lB).trans k1)
    replace hB2 : Below (B + 1) W1 w2 := hB2.mono (Nat.le_of_eq hsz.symm)
    clear m1
    go_loopg [4] rows.length (fun gk sv wr => ∃ s : Nat, gk = rows.length - s ∧ sv = .int .i64 s ∧ s ≤ rows.length ∧ Hid (∀ j, j < s → ∀ t, j < t → t < rows.length → (first rows l (2 ^ j ||| 2 ^ t)).2 = true) ∧ Below (B + 1) W1 wr)
    case atStart => exact ⟨0, rfl, rfl, Nat.zero_le _, hide (fun j h => absurd h (by omega)), hB2⟩
    case round =>
      obtain ⟨s, hgk, rfl, hs, hall, hB⟩ := hrel
      by_cases hlt : s < rows.length
      · have hbx6 : BoxA wr B l A rows.length cc := (hB.block B (Nat.lt_succ_self B)).trans hbx
        have m1 := hbx6.c1
        clear hbx6
        go_wp2_with fail
        clear m1
        go_loopg [5] (rows.length - (s + 1)) (fun gt tv wr => ∃ t : Nat, gt = rows.length - t ∧ tv = .int .i64 t ∧ s < t ∧ t ≤ rows.length ∧ Hid (∀ j, s < j → j < t → (first rows l (2 ^ s ||| 2 ^ j)).2 = true) ∧ Below (B + 1) W1 wr)
        case atStart => exact ⟨s + 1, rfl, by go_num, by omega, by omega, hide (fun j h1 h2 => absurd h1 (by omega)), hB⟩
        case round =>
          obtain ⟨t, hgt, rfl, hst, ht, hal2, hB⟩ := hrel
          have hbx7 : BoxA wr B l A rows.length cc := (hB.block B (Nat.lt_succ_self B)).trans hbx
          by_cases hts : t < rows.length
          · obtain ⟨z, hz⟩ : ∃ z, 2 ^ s ||| 2 ^ t = z := ⟨_, rfl⟩
            have hzl : z < 2 ^ rows.length := by rw [← hz]; exact pair_lt hlt hts
            have e3 : bits BinOp.or IntKind.i64 (IntKind.i64.wrap (2 ^ s)) (IntKind.i64.wrap (2 ^ t)) = (z : Int) := by rw [← hz]; exact pairI s (by omega) t (by omega)
            have HNs := hide (HN.out s t hst hts)
            have HRW := hide hz
            rw [hz] at HNs
            obtain ⟨v, u, hvu⟩ : ∃ v u, first rows l z = (v, u) := ⟨_, _, rfl⟩
            rw [hvu] at HNs
            have HSP : Hid (∀ W, Below (B + 1) W1 W → Calls Tryd.prog 55 #[.agg #[.int .i64 l, .slice A rows.length cc], .int .i64 (bits BinOp.or IntKind.i64 (IntKind.i64.wrap (2 ^ s)) (IntKind.i64.wrap (2 ^ t)))] W fun e w' => e = .returned (.tuple #[.string v, .bool u]) ∧ Below W.heap.size W w') := hide fun W hW => by
              have := HS.out z W hzl (HR.out.below (hW.mono (Nat.le_of_eq hsz))) (HT.out.below (hW.mono (Nat.le_of_eq hsz)))
              rw [hvu] at this
              rw [e3]
              exact this
            have HVU := hide hvu
            have hAcc : Below (B + 1) W1 wr.drew := hB.drew
            have n1 : wr.cell? ⟨B, 1, none⟩ = some (.slice A rows.length cc) := hbx7.c1
            have m0 : wr.drew.cell? ⟨B, 0, none⟩ = some (.int .i64 l) := hbx7.c0
            have m1 : wr.drew.cell? ⟨B, 1, none⟩ = some (.slice A rows.length cc) := hbx7.c1
            have hs0 : (0 : Int) ≤ (s : Int) := by omega
            have ht0 : (0 : Int) ≤ (t : Int) := by omega
            have hs63 : ¬ (63 : Int) < (s : Int) := by omega
            have ht63 : ¬ (63 : Int) < (t : Int) := by omega
            have hs1 := hAcc.size
            clear hz hvu hbx7 hB e3
            cases u with
            | true =>
              go_wp2_with fail
              go_region_held3 (fun W => W.cell? ⟨B, 0, none⟩ = some (.int .i64 l) ∧ W.cell? ⟨B, 1, none⟩ = some (.slice A rows.length cc))
                (first | with_reducible exact ⟨m0, m1⟩)
                ((go_at_call 55; (with_reducible refine (HSP.out _ hAcc).mono ?_); rintro e w4 ⟨rfl, hB4⟩; replace hAcc := hAcc.trans (hB4.mono (by omega)); replace m0 := (hB4.cell (p := ⟨B, 0, none⟩) (World.block_lt_of_cell? _ _ m0)).trans m0; replace m1 := (hB4.cell (p := ⟨B, 1, none⟩) (World.block_lt_of_cell? _ _ m1)).trans m1))
              go_wp2_with fail
              go_roundg (rows.length - (t + 1))
              case measure => omega
              case rel => exact ⟨t + 1, rfl, by go_num, by omega, hts, hide (fun j hsj hj => by
                by_cases e : j < t
                · exact hal2.out j hsj e
                · obtain rfl : j = t := by omega
                  rw [HRW.out, HVU.out]), hAcc⟩
            | false =>
              have hR1 := hide (HNs.out rfl)
              go_wp2_with fail
              go_region_held3 (fun W => W.cell? ⟨B, 0, none⟩ = some (.int .i64 l) ∧ W.cell? ⟨B, 1, none⟩ = some (.slice A rows.length cc))
                (first | with_reducible exact ⟨m0, m1⟩)
                ((go_at_call 55; (with_reducible refine (HSP.out _ hAcc).mono ?_); rintro e w4 ⟨rfl, hB4⟩; replace hAcc := hAcc.trans (hB4.mono (by omega)); replace m0 := (hB4.cell (p := ⟨B, 0, none⟩) (World.block_lt_of_cell? _ _ m0)).trans m0; replace m1 := (hB4.cell (p := ⟨B, 1, none⟩) (World.block_lt_of_cell? _ _ m1)).trans m1))
              go_wp2
              go_ret2
              exact ⟨by rw [hR1.out]; rfl, hBB ▸ hB0.trans (hAcc.mono (by omega))⟩
          · obtain rfl : t = rows.length := by omega
            have n1 : wr.cell? ⟨B, 1, none⟩ = some (.slice A rows.length cc) := hbx7.c1
            clear hbx7
            go_wp2
            go_roundg (rows.length - (s + 1))
            case measure => omega
            case rel => exact ⟨s + 1, rfl, by go_num, hlt, hide (fun i hi => by
              by_cases e : i < s
              · exact hall.out i e
              · obtain rfl : i = s := by omega
                exact hal2.out), hB⟩
      · obtain rfl : s = rows.length := by omega
        have hR1 := hide (HY.out hall.out)
        have hbx6 : BoxA wr B l A rows.length cc := (hB.block B (Nat.lt_succ_self B)).trans hbx
        have m1 := hbx6.c1
        clear hbx6
        go_wp2
        go_ret2
        exact ⟨by rw [hR1.out]; rfl, hBB ▸ hB0.trans (hB.mono (by omega))⟩
  · have hne : (chkA L rows != 0) = true := by rw [bne_iff_ne]; exact h0
    rw [prsV_bad h0]
    clear hR hT hbx
    go_enter Tryd.func33, Tryd.ntmps33
    go_wp2_with fail
    generalize w.alloc (Obj.cells #[.int .i64 L, .slice A rows.length cc] 24) = W1 at hB0 HR HT k0 k1 hsz ⊢
    go_wp2_with (go_at_call 20; refine (HC.out W1 HR.out).mono ?_; rintro e w2 ⟨rfl, hB2⟩)
    go_ret2
    exact ⟨rfl, hBB ▸ hB0.trans (hB2.mono (by omega))⟩
end Go.Proofs.YtmokccidpnpimaaDoor
