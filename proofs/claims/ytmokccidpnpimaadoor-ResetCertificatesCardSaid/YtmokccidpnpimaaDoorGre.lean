/- Greedy of both sides. -/
import Derived.Test.YtmokccidpnpimaaDoorGrP
import Derived.Deep.RegionHeld3
set_option linter.unusedVariables false
namespace Go.Proofs.YtmokccidpnpimaaDoor
open Go.RowKit Go.Maps
theorem lowG : ∀ S, S < 64 → 0 < S → sglB S = false → bits BinOp.and IntKind.i64 ((S : Nat) : Int) (-((S : Nat) : Int)) = ((2 ^ fa S : Nat) : Int) ∧ bits BinOp.andNot IntKind.i64 ((S : Nat) : Int) ((2 ^ fa S : Nat) : Int) = ((S - 2 ^ fa S : Nat) : Int)
    ∧ bits BinOp.or IntKind.i64 ((2 ^ fa S : Nat) : Int) (bits BinOp.and IntKind.i64 ((S - 2 ^ fa S : Nat) : Int) (-((S - 2 ^ fa S : Nat) : Int))) = ((pr2 S : Nat) : Int) ∧ S - 2 ^ fa S < 64 := by decide +kernel
set_option maxRecDepth 100000 in
set_option maxHeartbeats 4000000 in
theorem zGreedy_any (L : Int) (rows : List (List Int)) (A : Option Addr) (cc : Nat) (w : World) (hg : grt L rows.length = false) (hR : RowD w A rows) (hT : TabZ w) (hb : rows.length ≤ 9223372036854775807) :
    Calls Tryd.prog 26 #[.agg #[.int .i64 L, .slice A rows.length cc]] w fun e w' => e = .returned (gryV L rows) ∧ Below w.heap.size w w' := by
  have hB0 : Below w.heap.size w (w.alloc (Obj.cells #[.int .i64 L, .slice A rows.length cc] 24)) := (Below.refl _ w).alloc (Nat.le_refl _) _
  have HR := hide (hR.below hB0)
  have HT := hide (hT.below hB0)
  obtain ⟨B, hBB⟩ : ∃ B, w.heap.size = B := ⟨_, rfl⟩
  have hbx : BoxA (w.alloc (Obj.cells #[.int .i64 L, .slice A rows.length cc] 24)) B L A rows.length cc := by rw [← hBB]; exact heap_alloc_new w _
  have k0 := hbx.c0
  have k1 := hbx.c1
  have hsz : (w.alloc (Obj.cells #[.int .i64 L, .slice A rows.length cc] 24)).heap.size = B + 1 := by rw [← hBB]; simp
  have HC := hide (fun W (h : RowD W A rows) => zCheck_any L rows A cc W h hb)
  by_cases h0 : chkA L rows = 0
  · obtain ⟨l, rfl, hA⟩ := aut_of hg h0
    rw [h0] at HC
    have hn := hA.n6
    have HA := hide hA
    have HS := hide (fun S W (hS : S < 2 ^ rows.length) (h : RowD W A rows) (hT : TabZ W) => zsearch_any rows l S A cc W hA hS h hT)
    have HF := hide (fun W => zall_any rows l A cc W (by omega))
    have HLE := hide (fun S (s : ByteArray) W hS hs hb h hT => zlead_any rows l S s A cc W hA hS hs hb h hT)
    have HY := hide (fun o => @gryV_ok l rows o)
    have HN := hide (@gryV_no l rows)
    have HG : Hid (gry rows l = grd rows l 7 (fullS rows) ⟨#[]⟩) := hide rfl
    have hfl := full_lt rows.length
    have hf0 : 0 < fullS rows := by unfold fullS; have := hA.n1; have := Nat.pow_le_pow_right (n := 2) (by decide) this; omega
    obtain ⟨F, hFF⟩ : ∃ F, 2 ^ rows.length - 1 = F := ⟨_, rfl⟩
    have hfu : fullS rows = F := hFF
    rw [hfu] at HG hf0
    rw [hFF] at HF hfl
    have h64 := hA.pow
    have hcF := (crd_1 F (by omega) hf0).2
    have H0 := hide h0
    generalize gryV l rows = R at HY HN ⊢
    generalize gry rows l = G at HY HN HG ⊢
    clear hR hT hg h0 hA hFF hfu
    go_enter Tryd.func26, Tryd.ntmps26
    go_wp2_with fail
    generalize w.alloc (Obj.cells #[.int .i64 (l : Int), .slice A rows.length cc] 24) = W1 at hB0 HR HT hbx k0 k1 hsz ⊢
    have lB : B < W1.heap.size := by omega
    go_wp2_with (first
      | (go_at_call 29; refine (HC.out W1 HR.out).mono ?_; rintro e w2 ⟨rfl, hB2⟩; have m0 := (hB2.cell (p := ⟨B, 0, none⟩) lB).trans k0; have m1 := (hB2.cell (p := ⟨B, 1, none⟩) lB).trans k1)
      | (go_at_call 37; refine (HF.out _).mono ?_; rintro e w3 ⟨rfl, hB3⟩; replace hB2 := hB2.trans (hB3.mono hB2.size)))
    replace hB2 : Below (B + 1) W1 w3 := hB2.mono (Nat.le_of_eq hsz.symm)
    clear m0 m1
    go_loopg [4, 5] 6 (fun gk ov sv wr => ∃ (S : Nat) (o : ByteArray), ov = .string o ∧ sv = .int .i64 S ∧ 0 < S ∧ S < 2 ^ rows.length ∧ crd S ≤ gk ∧ o.size + 64 * gk ≤ 384 ∧ Hid (G = grd rows l (gk + 1) S o) ∧ Below (B + 1) W1 wr)
    case atStart => exact ⟨F, ⟨#[]⟩, rfl, rfl, hf0, hfl, hcF, by decide, HG, hB2⟩
    case round =>
      obtain ⟨S, o, rfl, rfl, hS0, hSn, hcr, hos, HE, hB⟩ := hrel
      clear hB2
      have hS64 : S < 64 := by omega
      have HX := hide (fun W => zsingle_any S W hS64)
      have hbx7 : BoxA wr B l A rows.length cc := (hB.block B (Nat.lt_succ_self B)).trans hbx
      have m0 := hbx7.c0
      have m1 := hbx7.c1
      cases hs : sglB S with
      | true =>
        rw [hs] at HX
        have hR1 := hide (HY.out o H0.out (HE.out.trans (grd_hit hs)))
        clear hs hbx7
        go_wp2_with (go_at_call 48; refine (HX.out _).mono ?_; rintro e w' ⟨rfl, rfl⟩)
        go_ret2
        exact ⟨by rw [hR1.out]; rfl, hBB ▸ hB0.trans (hB.mono (by omega))⟩
      | false =>
        rw [hs] at HX
        have HHS := HX
        obtain ⟨q1, q2, q3, q4⟩ := lowG S hS64 hS0 hs
        obtain ⟨f1, f2, f3, f4⟩ := fab S hS64 hS0 hs
        have hpl := pair_lt (bit_lt hSn f3) (bit_lt hSn f4)
        rw [show 2 ^ fa S ||| 2 ^ fb S = pr2 S from rfl] at hpl
        have HST := hide (fun v hf => grd_step (rows := rows) (L := l) (S := S) (v := v) HA.out hSn hS0 hs hf)
        have HGN := hide (fun v hf => HE.out.trans (grd_no (rows := rows) (L := l) (f := gk) (S := S) (o := o) (v := v) hs hf))
        have hc1 := (crd_1 S hS64 hS0).1
        obtain ⟨k, rfl⟩ : ∃ k, gk = k + 1 := ⟨gk - 1, by omega⟩
        have HGG := hide (fun v hf => HE.out.trans (grd_go (rows := rows) (L := l) (f := k + 1) (S := S) (o := o) (v := v) hs hf))
        have hneg1 : IntKind.i64.wrap (-(S : Int)) = -(S : Int) := IntWalk.i64_in _ (by omega)
        obtain ⟨a, ha⟩ : ∃ a, 2 ^ fa S = a := ⟨_, rfl⟩
        rw [ha] at q1 q2 q3 q4
        obtain ⟨r, hr⟩ : ∃ r, S - a = r := ⟨_, rfl⟩
        rw [hr] at q2 q3 q4
        have hneg2 : IntKind.i64.wrap (-(r : Int)) = -(r : Int) := IntWalk.i64_in _ (by omega)
        obtain ⟨p, hp⟩ : ∃ p, pr2 S = p := ⟨_, rfl⟩
        rw [hp] at q3 hpl HST HGN HGG
        obtain ⟨v, u, hvu⟩ : ∃ v u, first rows l p = (v, u) := ⟨_, _, rfl⟩
        have HSP : Hid (∀ W, Below (B + 1) W1 W → Calls Tryd.prog 46 #[.agg #[.int .i64 l, .slice A rows.length cc], .int .i64 p] W fun e w' => e = .returned (.tuple #[.string v, .bool u]) ∧ Below W.heap.size W w') := hide fun W hW => by
          have := HS.out p W hpl (HR.out.below (hW.mono (Nat.le_of_eq hsz))) (HT.out.below (hW.mono (Nat.le_of_eq hsz)))
          rw [hvu] at this
          exact this
        have hs1 := hB.size
        have HBX := hide hbx7
        clear hs f1 f2 f3 f4 ha hr hp hbx7 HHS
        have hov : o.size ≤ 384 := by omega
        have hB6 := hB
        cases u with
        | true =>
          obtain ⟨g1, g2, g3, g4, g5⟩ := HST.out v hvu
          have HE2 := hide (HGG.out v hvu)
          obtain ⟨T, hT⟩ : ∃ T, led rows S v.data.toList = T := ⟨_, rfl⟩
          rw [hT] at g3 g4 g5 HE2
          have HLD : Hid (∀ W, Below (B + 1) W1 W → Calls Tryd.prog 49 #[.agg #[.int .i64 l, .slice A rows.length cc], .int .i64 S, .string v] W fun e w' => e = .returned (.int .i64 T) ∧ Below W.heap.size W w') := hide fun W hW => by
            rw [← hT]; exact HLE.out S v W hSn g1 (by omega) (HR.out.below (hW.mono (Nat.le_of_eq hsz))) (HT.out.below (hW.mono (Nat.le_of_eq hsz)))
          clear hT hvu g1 HGG HGN HST
          go_wp2_with (first
            | (go_at_call 48; (with_reducible refine (HX.out _).mono ?_); rintro e w' ⟨rfl, rfl⟩)
            | (go_at_call 46; (with_reducible refine (HSP.out _ hB).mono ?_); rintro e w4 ⟨rfl, hB4⟩; replace hB6 := hB.trans (hB4.mono (by omega)); replace m0 := (hB4.cell (p := ⟨B, 0, none⟩) (World.block_lt_of_cell? _ _ m0)).trans m0; replace m1 := (hB4.cell (p := ⟨B, 1, none⟩) (World.block_lt_of_cell? _ _ m1)).trans m1; have hs6 := hB6.size)
            | (go_at_call 49; (with_reducible refine (HLD.out _ hB6).mono ?_); rintro e w5 ⟨rfl, hB5⟩))
          go_roundg k
          case measure => omega
          case rel => exact ⟨T, o ++ v, rfl, rfl, g3, g4, by omega, by rw [ByteArray.size_append]; omega, HE2, hB6.trans (hB5.mono (by omega))⟩
        | false =>
          have hR1 := hide (HN.out H0.out (by rw [HGN.out v hvu]))
          clear hvu HGG HGN HST
          go_wp2_with (first
            | (go_at_call 48; (with_reducible refine (HX.out _).mono ?_); rintro e w' ⟨rfl, rfl⟩)
            | (go_at_call 46; (with_reducible refine (HSP.out _ hB).mono ?_); rintro e w4 ⟨rfl, hB4⟩))
          go_ret2
          exact ⟨by rw [hR1.out]; rfl, hBB ▸ hB0.trans ((hB.trans (hB4.mono (by omega))).mono (by omega))⟩
  · have hne : (chkA L rows != 0) = true := by rw [bne_iff_ne]; exact h0
    rw [gryV_bad h0]
    clear hR hT hbx
    go_enter Tryd.func26, Tryd.ntmps26
    go_wp2_with fail
    generalize w.alloc (Obj.cells #[.int .i64 L, .slice A rows.length cc] 24) = W1 at hB0 HR HT k0 k1 hsz ⊢
    go_wp2_with (go_at_call 29; refine (HC.out W1 HR.out).mono ?_; rintro e w2 ⟨rfl, hB2⟩)
    go_ret2
    exact ⟨rfl, hBB ▸ hB0.trans (hB2.mono (by omega))⟩
/-- how many states below k a set has -/
def cn (S k : Nat) : Nat := (stsK S k).length
theorem lst_1 : ∀ S, S < 64 → 0 < S → sglB S = false → ∀ k, k < 7 → (decide (cn S k < 2) = decide (k ≤ fb S)) ∧ cn S k ≤ 6 := by decide +kernel
theorem lst_2 : ∀ S, S < 64 → ∀ k, k < 6 → S.testBit k = true → cn S (k + 1) = cn S k + 1 ∧ S % 2 ^ (k + 1) = S % 2 ^ k ||| 2 ^ k := by decide +kernel
theorem lst_3 : ∀ S, S < 64 → ∀ k, k < 6 → S.testBit k = false → cn S (k + 1) = cn S k ∧ S % 2 ^ (k + 1) = S % 2 ^ k := by decide +kernel
theorem lst_4 : ∀ S, S < 64 → 0 < S → sglB S = false → S % 2 ^ (fb S + 1) = pr2 S := by decide +kernel
theorem lst_5 : ∀ S, S < 64 → ∀ k, k < 7 → S % 2 ^ k < 64 := by decide +kernel
set_option maxRecDepth 100000 in
set_option maxHeartbeats 4000000 in
theorem zleast_any (S : Nat) (w : World) (hS : S < 64) (h0 : 0 < S) (hs : sglB S = false) :
    Calls Tryd.prog 56 #[.int .i64 S] w fun e w' => e = .returned (.int .i64 (pr2 S)) ∧ w' = w := by
  have HL1 := hide (lst_1 S hS h0 hs)
  have HL4 := hide (lst_4 S hS h0 hs)
  have hf := (fab S hS h0 hs).2.1
  obtain ⟨F, hF⟩ : ∃ F, fb S = F := ⟨_, rfl⟩
  rw [hF] at HL1 HL4 hf
  clear hF hs
  go_enter Tryd.func56, Tryd.ntmps56
  go_wp2
  go_loopg [3, 4, 5] 7 (fun gk ov cv sv wr => ∃ k : Nat, gk = 7 - k ∧ sv = .int .i64 k ∧ k ≤ F + 1 ∧ ov = .int .i64 (S % 2 ^ k : Nat) ∧ cv = .int .i64 (cn S k) ∧ wr = w)
  case atStart => exact ⟨0, rfl, rfl, Nat.zero_le _, by simp [Nat.mod_one], rfl, rfl⟩
  case round =>
    obtain ⟨k, hgk, rfl, hk, rfl, rfl, rfl⟩ := hrel
    obtain ⟨q1, q2⟩ := HL1.out k (by omega)
    have q5 := lst_5 S hS k (by omega)
    by_cases hlt : k ≤ F
    · rw [decide_eq_true hlt, decide_eq_true_iff] at q1
      have HH := hide (zhas_any S k wr hS (by omega))
      cases hb : S.testBit k with
      | true =>
        rw [hb] at HH
        obtain ⟨r1, r2⟩ := lst_2 S hS k (by omega) hb
        have HR1 := hide r1
        have HR2 := hide r2
        have e1 := orS (S % 2 ^ k) q5 k (by omega)
        have h63 : ¬ (63 : Int) < (k : Int) := by omega
        generalize S % 2 ^ k = z at q5 e1 HR2 ⊢
        generalize cn S k = c at q1 q2 HR1 ⊢
        clear r1 r2 hb
        go_wp2_with (go_at_call 52; refine HH.out.mono ?_; rintro e w' ⟨rfl, rfl⟩)
        go_roundg (7 - (k + 1))
        case measure => omega
        case rel => exact ⟨k + 1, rfl, by go_num, by omega, by rw [HR2.out], by rw [HR1.out]; go_num, by first | exact trivial | rfl⟩
      | false =>
        rw [hb] at HH
        obtain ⟨r1, r2⟩ := lst_3 S hS k (by omega) hb
        have HR1 := hide r1
        have HR2 := hide r2
        generalize S % 2 ^ k = z at q5 HR2 ⊢
        generalize cn S k = c at q1 q2 HR1 ⊢
        clear r1 r2 hb
        go_wp2_with (go_at_call 52; refine HH.out.mono ?_; rintro e w' ⟨rfl, rfl⟩)
        go_roundg (7 - (k + 1))
        case measure => omega
        case rel => exact ⟨k + 1, rfl, by go_num, by omega, by rw [HR2.out], by rw [HR1.out], by first | exact trivial | rfl⟩
    · obtain rfl : k = F + 1 := by omega
      rw [decide_eq_false hlt, decide_eq_false_iff_not] at q1
      rw [HL4.out]
      generalize cn S (F + 1) = c at q1 q2 ⊢
      go_wp2
      go_ret
      exact ⟨rfl, by first | exact trivial | rfl⟩
set_option maxRecDepth 100000 in
set_option maxHeartbeats 4000000 in
theorem zrGreedy_any (L : Int) (rows : List (List Int)) (A : Option Addr) (cc : Nat) (w : World) (hg : grt L rows.length = false) (hR : RowD w A rows) (hT : TabZ w) (hb : rows.length ≤ 9223372036854775807) :
    Calls Tryd.prog 34 #[.agg #[.int .i64 L, .slice A rows.length cc]] w fun e w' => e = .returned (gryV L rows) ∧ Below w.heap.size w w' := by
  have hB0 : Below w.heap.size w (w.alloc (Obj.cells #[.int .i64 L, .slice A rows.length cc] 24)) := (Below.refl _ w).alloc (Nat.le_refl _) _
  have HR := hide (hR.below hB0)
  have HT := hide (hT.below hB0)
  obtain ⟨B, hBB⟩ : ∃ B, w.heap.size = B := ⟨_, rfl⟩
  have hbx : BoxA (w.alloc (Obj.cells #[.int .i64 L, .slice A rows.length cc] 24)) B L A rows.length cc := by rw [← hBB]; exact heap_alloc_new w _
  have k0 := hbx.c0
  have k1 := hbx.c1
  have hsz : (w.alloc (Obj.cells #[.int .i64 L, .slice A rows.length cc] 24)).heap.size = B + 1 := by rw [← hBB]; simp
  have HC := hide (fun W (h : RowD W A rows) => zrCheck_any L rows A cc W h hb)
  by_cases h0 : chkA L rows = 0
  · obtain ⟨l, rfl, hA⟩ := aut_of hg h0
    rw [h0] at HC
    have hn := hA.n6
    have HA := hide hA
    have HS := hide (fun S W (hS : S < 2 ^ rows.length) (h : RowD W A rows) (hT : TabZ W) => zfirst_any rows l S A cc W hA hS h)
    have HF := hide (fun W => zfull_any rows l A cc W (by omega))
    have HLE := hide (fun S (s : ByteArray) W hS hs hb h hT => zalong_any rows l S s A cc W hA hS hs hb h hT)
    have HY := hide (fun o => @gryV_ok l rows o)
    have HN := hide (@gryV_no l rows)
    have HG : Hid (gry rows l = grd rows l 7 (fullS rows) ⟨#[]⟩) := hide rfl
    have hfl := full_lt rows.length
    have hf0 : 0 < fullS rows := by unfold fullS; have := hA.n1; have := Nat.pow_le_pow_right (n := 2) (by decide) this; omega
    obtain ⟨F, hFF⟩ : ∃ F, 2 ^ rows.length - 1 = F := ⟨_, rfl⟩
    have hfu : fullS rows = F := hFF
    rw [hfu] at HG hf0
    rw [hFF] at HF hfl
    have h64 := hA.pow
    have hcF := (crd_1 F (by omega) hf0).2
    have H0 := hide h0
    generalize gryV l rows = R at HY HN ⊢
    generalize gry rows l = G at HY HN HG ⊢
    clear hR hT hg h0 hA hFF hfu
    go_enter Tryd.func34, Tryd.ntmps34
    go_wp2_with fail
    generalize w.alloc (Obj.cells #[.int .i64 (l : Int), .slice A rows.length cc] 24) = W1 at hB0 HR HT hbx k0 k1 hsz ⊢
    have lB : B < W1.heap.size := by omega
    go_wp2_with (first
      | (go_at_call 20; refine (HC.out W1 HR.out).mono ?_; rintro e w2 ⟨rfl, hB2⟩; have m0 := (hB2.cell (p := ⟨B, 0, none⟩) lB).trans k0; have m1 := (hB2.cell (p := ⟨B, 1, none⟩) lB).trans k1)
      | (go_at_call 41; refine (HF.out _).mono ?_; rintro e w3 ⟨rfl, hB3⟩; replace hB2 := hB2.trans (hB3.mono hB2.size)))
    replace hB2 : Below (B + 1) W1 w3 := hB2.mono (Nat.le_of_eq hsz.symm)
    clear m0 m1
    go_loopg [4, 5] 6 (fun gk sv ov wr => ∃ (S : Nat) (o : ByteArray), ov = .string o ∧ sv = .int .i64 S ∧ 0 < S ∧ S < 2 ^ rows.length ∧ crd S ≤ gk ∧ o.size + 64 * gk ≤ 384 ∧ Hid (G = grd rows l (gk + 1) S o) ∧ Below (B + 1) W1 wr)
    case atStart => exact ⟨F, ⟨#[]⟩, rfl, rfl, hf0, hfl, hcF, by decide, HG, hB2⟩
    case round =>
      obtain ⟨S, o, rfl, rfl, hS0, hSn, hcr, hos, HE, hB⟩ := hrel
      clear hB2
      have hS64 : S < 64 := by omega
      have HX := hide (fun W => zrsingle_any S W hS64)
      have hbx7 : BoxA wr B l A rows.length cc := (hB.block B (Nat.lt_succ_self B)).trans hbx
      have m0 := hbx7.c0
      have m1 := hbx7.c1
      cases hs : sglB S with
      | true =>
        rw [hs] at HX
        have hR1 := hide (HY.out o H0.out (HE.out.trans (grd_hit hs)))
        clear hs hbx7
        go_wp2_with (go_at_call 44; refine (HX.out _).mono ?_; rintro e w' ⟨rfl, rfl⟩)
        go_ret2
        exact ⟨by rw [hR1.out]; rfl, hBB ▸ hB0.trans (hB.mono (by omega))⟩
      | false =>
        rw [hs] at HX
        have HHS := HX
        have HLS := hide (fun W => zleast_any S W hS64 hS0 hs)
        obtain ⟨f1, f2, f3, f4⟩ := fab S hS64 hS0 hs
        have hpl := pair_lt (bit_lt hSn f3) (bit_lt hSn f4)
        rw [show 2 ^ fa S ||| 2 ^ fb S = pr2 S from rfl] at hpl
        have HST := hide (fun v hf => grd_step (rows := rows) (L := l) (S := S) (v := v) HA.out hSn hS0 hs hf)
        have HGN := hide (fun v hf => HE.out.trans (grd_no (rows := rows) (L := l) (f := gk) (S := S) (o := o) (v := v) hs hf))
        have hc1 := (crd_1 S hS64 hS0).1
        obtain ⟨k, rfl⟩ : ∃ k, gk = k + 1 := ⟨gk - 1, by omega⟩
        have HGG := hide (fun v hf => HE.out.trans (grd_go (rows := rows) (L := l) (f := k + 1) (S := S) (o := o) (v := v) hs hf))
        obtain ⟨p, hp⟩ : ∃ p, pr2 S = p := ⟨_, rfl⟩
        rw [hp] at hpl HST HGN HGG HLS
        obtain ⟨v, u, hvu⟩ : ∃ v u, first rows l p = (v, u) := ⟨_, _, rfl⟩
        have HSP : Hid (∀ W, Below (B + 1) W1 W → Calls Tryd.prog 55 #[.agg #[.int .i64 l, .slice A rows.length cc], .int .i64 p] W fun e w' => e = .returned (.tuple #[.string v, .bool u]) ∧ Below W.heap.size W w') := hide fun W hW => by
          have := HS.out p W hpl (HR.out.below (hW.mono (Nat.le_of_eq hsz))) (HT.out.below (hW.mono (Nat.le_of_eq hsz)))
          rw [hvu] at this
          exact this
        have hs1 := hB.size
        have HBX := hide hbx7
        clear hs f1 f2 f3 f4 hp hbx7 HHS
        have hov : o.size ≤ 384 := by omega
        have hB6 := hB
        cases u with
        | true =>
          obtain ⟨g1, g2, g3, g4, g5⟩ := HST.out v hvu
          have HE2 := hide (HGG.out v hvu)
          obtain ⟨T, hT⟩ : ∃ T, led rows S v.data.toList = T := ⟨_, rfl⟩
          rw [hT] at g3 g4 g5 HE2
          have HLD : Hid (∀ W, Below (B + 1) W1 W → Calls Tryd.prog 51 #[.agg #[.int .i64 l, .slice A rows.length cc], .int .i64 S, .string v] W fun e w' => e = .returned (.int .i64 T) ∧ Below W.heap.size W w') := hide fun W hW => by
            rw [← hT]; exact HLE.out S v W hSn g1 (by omega) (HR.out.below (hW.mono (Nat.le_of_eq hsz))) (HT.out.below (hW.mono (Nat.le_of_eq hsz)))
          clear hT hvu g1 HGG HGN HST
          go_wp2_with (go_at_call 44; (with_reducible refine (HX.out _).mono ?_); rintro e w' ⟨rfl, rfl⟩)
          have hAcc : Below (B + 1) W1 w'.drew := hB.drew
          replace m0 : w'.drew.cell? ⟨B, 0, none⟩ = some (.int .i64 l) := m0
          replace m1 : w'.drew.cell? ⟨B, 1, none⟩ = some (.slice A rows.length cc) := m1
          go_region_held3 (fun W => W.cell? ⟨B, 0, none⟩ = some (.int .i64 l) ∧ W.cell? ⟨B, 1, none⟩ = some (.slice A rows.length cc))
            (first | with_reducible exact ⟨m0, m1⟩)
            (first
              | (go_at_call 56; (with_reducible refine (HLS.out _).mono ?_); rintro e w7 ⟨rfl, rfl⟩)
              | (go_at_call 55; (with_reducible refine (HSP.out _ hAcc).mono ?_); rintro e w4 ⟨rfl, hB4⟩; replace hB6 := hAcc.trans (hB4.mono (by have := hAcc.size; omega)); replace m0 := (hB4.cell (p := ⟨B, 0, none⟩) (World.block_lt_of_cell? _ _ m0)).trans m0; replace m1 := (hB4.cell (p := ⟨B, 1, none⟩) (World.block_lt_of_cell? _ _ m1)).trans m1; have hs6 := hB6.size))
          go_wp2_with (go_at_call 51; (with_reducible refine (HLD.out _ hB6).mono ?_); rintro e w5 ⟨rfl, hB5⟩)
          go_roundg k
          case measure => omega
          case rel => exact ⟨T, o ++ v, rfl, rfl, g3, g4, by omega, by rw [ByteArray.size_append]; omega, HE2, hB6.trans (hB5.mono (by omega))⟩
        | false =>
          have hR1 := hide (HN.out H0.out (by rw [HGN.out v hvu]))
          clear hvu HGG HGN HST
          go_wp2_with (go_at_call 44; (with_reducible refine (HX.out _).mono ?_); rintro e w' ⟨rfl, rfl⟩)
          have hAcc : Below (B + 1) W1 w'.drew := hB.drew
          replace m0 : w'.drew.cell? ⟨B, 0, none⟩ = some (.int .i64 l) := m0
          replace m1 : w'.drew.cell? ⟨B, 1, none⟩ = some (.slice A rows.length cc) := m1
          go_region_held3 (fun W => W.cell? ⟨B, 0, none⟩ = some (.int .i64 l) ∧ W.cell? ⟨B, 1, none⟩ = some (.slice A rows.length cc))
            (first | with_reducible exact ⟨m0, m1⟩)
            (first
              | (go_at_call 56; (with_reducible refine (HLS.out _).mono ?_); rintro e w7 ⟨rfl, rfl⟩)
              | (go_at_call 55; (with_reducible refine (HSP.out _ hAcc).mono ?_); rintro e w4 ⟨rfl, hB4⟩; replace hB6 := hAcc.trans (hB4.mono (by have := hAcc.size; omega)); replace m0 := (hB4.cell (p := ⟨B, 0, none⟩) (World.block_lt_of_cell? _ _ m0)).trans m0; replace m1 := (hB4.cell (p := ⟨B, 1, none⟩) (World.block_lt_of_cell? _ _ m1)).trans m1; have hs6 := hB6.size))
          go_wp2
          go_ret2
          exact ⟨by rw [hR1.out]; rfl, hBB ▸ hB0.trans (hB6.mono (by omega))⟩
  · have hne : (chkA L rows != 0) = true := by rw [bne_iff_ne]; exact h0
    rw [gryV_bad h0]
    clear hR hT hbx
    go_enter Tryd.func34, Tryd.ntmps34
    go_wp2_with fail
    generalize w.alloc (Obj.cells #[.int .i64 L, .slice A rows.length cc] 24) = W1 at hB0 HR HT k0 k1 hsz ⊢
    go_wp2_with (go_at_call 20; refine (HC.out W1 HR.out).mono ?_; rintro e w2 ⟨rfl, hB2⟩)
    go_ret2
    exact ⟨rfl, hBB ▸ hB0.trans (hB2.mono (by omega))⟩
end Go.Proofs.YtmokccidpnpimaaDoor
