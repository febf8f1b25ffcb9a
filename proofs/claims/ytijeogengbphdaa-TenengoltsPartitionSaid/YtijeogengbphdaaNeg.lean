/- number with a sign, integer.Neg, Add of a number and the opposite of a lesser one, Sub, Compare: their contracts. -/
import Derived.Test.YtijeogengbphdaaSub1
import Derived.Test.YtijeogengbphdaaR1c
set_option linter.unusedVariables false
namespace Go.Proofs.Ytijeogengbphdaa
open Go.RowKit
set_option maxRecDepth 100000 in
set_option maxHeartbeats 1000000 in
theorem inumber_neg (A : Option Addr) (m c N : Nat) (w : World) (hA : NatC w A m N) (hN : Hid (N < 4294967296 ^ m)) (hm : m ≤ 10000) (hmc : m ≤ c) (hNp : 0 < N) :
    Calls Try.prog 57 #[.bool true, .slice A m c] w fun e w' => e = .returned (.agg #[.bool true, .string ⟨(beN N).toArray⟩]) ∧ Below w.heap.size w w' := by
  have H1 := hide (fun W (hB : Below w.heap.size w W) => itrim_any A m c N W (hA.below hB) hN (by omega) hmc)
  have HA := hide hA
  clear hA hN
  go_enter Try.func57, Try.ntmps57
  have hB0 : Below w.heap.size w (w.alloc (Obj.cells #[Value.bool false, Value.string { data := #[] }] 39)) := (Below.refl _ w).alloc (Nat.le_refl _) _
  have hk0 : ResI (w.alloc (Obj.cells #[Value.bool false, Value.string { data := #[] }] 39)) w.heap.size false ⟨#[]⟩ := ResI.new_ w _ _
  have hs0 : (w.alloc (Obj.cells #[Value.bool false, Value.string { data := #[] }] 39)).heap.size = w.heap.size + 1 := by simp
  go_wp2_with fail
  generalize w.alloc (Obj.cells #[Value.bool false, Value.string { data := #[] }] 39) = W0 at hB0 hk0 hs0 ⊢
  refine (H1.out _ hB0).mono ?_
  rintro e w' ⟨l, rfl, ht, hl, rfl⟩
  have hA0 := HA.out.below hB0
  obtain ⟨B, hBB⟩ : ∃ B, w.heap.size = B := ⟨_, rfl⟩
  rw [hBB] at hB0 hk0 hs0 ⊢
  by_cases hl0 : l = 0
  · subst hl0
    have := ht.zero
    omega
  · have HT := hide ht
    have HA2 := hide (hA0.less hl)
    have hlc : l ≤ c := by omega
    have hl1 : l ≤ 10000 := by omega
    have hlz : ((l : Int) == 0) = false := by rw [beq_eq_false_iff_ne]; omega
    obtain ⟨w1, hmk, hrow, hB1⟩ := run_make_cap (4 * l) (by omega) W0
    rw [show ((4 * l : Nat) : Int) = 4 * (l : Int) by omega] at hmk
    rw [hs0] at hmk hrow hB1
    have HB := hide hB1
    have HB0 := hide hB0
    have HK0 := hide hk0
    have HL0 := hide (Nat.pos_of_ne_zero hl0)
    have HRow := hide hrow
    have HS0 := hide hs0
    clear ht hl0 H1 HA hl hm hmc hrow hs0 hk0 hB0 hB1 hA0
    go_wp2
    go_loopw [5, 6] (fun bv iv wr => ∃ i : Nat, iv = .int .i64 ((i : Int) - 1) ∧ i ≤ l ∧ BStr wr (B + 1) bv (beN (N / 4294967296 ^ i)) ∧ Below (B + 1) W0 wr) (fun _ iv _ => (intOf iv + 1).toNat)
    case atStart =>
      refine ⟨l, rfl, Nat.le_refl _, ?_, HB.out⟩
      rw [Nat.div_eq_of_lt HT.out.1, beN_zero]
      exact HRow.out
    case round =>
      obtain ⟨i, rfl, hi, hr, hBr⟩ := hrel
      cases i with
      | zero =>
        have hN0 : 0 < N := HT.out.pos HL0.out
        rw [Nat.pow_zero, Nat.div_one] at hr
        have hpos : 0 < (beN N).length := by
          apply Nat.pos_of_ne_zero
          intro h0
          have := beN_nil.1 (List.eq_nil_of_length_eq_zero h0)
          omega
        have hback := hr.back hpos
        have hk0 := HK0.out.below hBr (Nat.lt_succ_self _)
        have f0 := hk0.c0
        have f1 := hk0.c1
        have z0 := hk0.z0
        have z1 := hk0.z1
        have HR := hide hr
        clear hr hpos hN0
        go_wp2
        refine bodyPost_ret (ret_apiInt rfl _ _ B _ rfl (hk0.set_ _ _) rfl) rfl ?_
        refine ⟨rfl, ?_⟩
        rw [hBB]
        exact Below.pair (HB0.out.trans (hBr.mono (Nat.le_succ _))) (Nat.le_refl _) _ _
      | succ i =>
        rw [show (((i + 1 : Nat) : Int) - 1) = (i : Int) by omega]
        go_wp2
        go_loopw [5, 7] (fun bv kv wr' => ∃ k : Nat, kv = .int .i64 ((k : Int) - 1) ∧ k ≤ 4 ∧ BStr wr' (B + 1) bv (beN (N / 256 ^ (4 * i + k))) ∧ Below (B + 1) W0 wr') (fun _ kv _ => (intOf kv + 1).toNat)
        case atStart =>
          refine ⟨4, rfl, Nat.le_refl _, ?_, hBr⟩
          rw [show (256 : Nat) ^ (4 * i + 4) = 4294967296 ^ (i + 1) by rw [show (4294967296 : Nat) = 256 ^ 4 from rfl, ← Nat.pow_mul]; rfl]
          exact hr
        case round =>
          obtain ⟨k, rfl, hk, hr2, hBr2⟩ := hrel
          cases k with
          | zero =>
            have hr3 := hide hr2
            clear hr2
            go_wp2
            go_roundw
            case rel =>
              refine ⟨i, by go_num, by omega, ?_, hBr2⟩
              have := hr3.out
              rw [show (256 : Nat) ^ (4 * i + 0) = 4294967296 ^ i by rw [Nat.add_zero, Nat.pow_mul]] at this
              exact this
            case measure => simp [intOf]
          | succ k =>
            rw [show (((k + 1 : Nat) : Int) - 1) = (k : Int) by omega]
            obtain ⟨g, rfl, hg, hcell⟩ := HA2.out HL0.out
            have hck := (hBr2.cell (p := ⟨g, i, none⟩) (by rw [← HS0.out]; exact hg)).trans (hcell i (by omega))
            have hd := num_byte N i k (by omega)
            obtain ⟨d, hdd⟩ : ∃ d, d = N / 4294967296 ^ i % 4294967296 := ⟨_, rfl⟩
            rw [← hdd] at hck hd
            have hstep := num_step N (4 * i + k) _ rfl
            have hclt : N / 256 ^ (4 * i + k) % 256 < 256 := Nat.mod_lt _ (by decide)
            obtain ⟨cu, hcu⟩ : ∃ cu, cu = UInt8.ofNat (N / 256 ^ (4 * i + k) % 256) := ⟨_, rfl⟩
            rw [← hcu] at hd hstep
            have hc0 : N / 256 ^ (4 * i + k) % 256 = cu.toNat := by rw [hcu, UInt8.toNat_ofNat']; omega
            rw [hc0] at hstep
            have hr3 : BStr wr (B + 1) _ (beN (N / 256 ^ (4 * i + k + 1))) := hr2
            have hlen : (beN (N / 256 ^ (4 * i + k + 1))).length ≤ 40000 := by
              rw [beN_len]
              have h4 : blen (N / 256 ^ (4 * i + k + 1)) ≤ 4 * l := by
                refine blen_le (Nat.lt_of_le_of_lt (Nat.div_le_self _ _) (Nat.lt_of_lt_of_le HT.out.1 ?_))
                rw [show (4294967296 : Nat) = 256 ^ 4 from rfl, ← Nat.pow_mul]
                exact Nat.le_refl _
              omega
            obtain ⟨L, hL⟩ : ∃ L, L = beN (N / 256 ^ (4 * i + k + 1)) := ⟨_, rfl⟩
            rw [← hL] at hr3 hlen hstep
            obtain ⟨ad, cap, rfl⟩ := hr3.shape
            have HStep := hide hstep
            have HC := hide hcell
            have hBs := hBr2.size
            rw [HS0.out] at hBs
            clear hdd hcu hc0 hr2 hstep hL hcell hclt hr
            by_cases hz : cu.toNat = 0
            · obtain rfl : cu = 0 := UInt8.toNat_inj.1 (by simpa using hz)
              replace hd : (d : Int) / 2 ^ (8 * k) % 256 = 0 := hd
              by_cases hL0 : L = []
              · subst hL0
                have hlz0 : ((List.length ([] : List UInt8) : Nat) : Int) = 0 := rfl
                have HR3 := hide hr3
                clear hr3
                go_wp2
                go_roundw
                case rel =>
                  refine ⟨k, by go_num, by omega, ?_, hBr2⟩
                  rw [HStep.out, if_pos ⟨hz, rfl⟩]
                  exact HR3.out
                case measure => simp [intOf]
              · have hLp : (0 : Int) < (L.length : Int) := by
                  have : L.length ≠ 0 := fun h => hL0 (List.eq_nil_of_length_eq_zero h)
                  omega
                have HStep2 := hide (show beN (N / 256 ^ (4 * i + k)) = L ++ [0] by
                  have := HStep.out
                  rw [if_neg (fun h => hL0 h.2)] at this
                  exact this)
                clear HStep hz hL0
                go_wp2_with (at_builtin; refine wpList_app_bs rfl (.tmp 45) (.tmp 47) rfl (B + 1) _ _ rfl (hr3.alloc _) wr.heap.size 1 [0] rfl rfl (heap_alloc_new wr _) (by omega) (by simp; omega) ?_; intro v1 w1 hv1 hg1)
                have hB3 : Below (B + 1) W0 w1 := (hBr2.alloc hBs _).grown hg1 (by simp; omega) (fun _ hk => (World.ownsRow.lt hr3 _ hk).1)
                clear hr3 hg1 hBr2
                go_roundw
                case rel =>
                  refine ⟨k, by go_num, by omega, ?_, hB3⟩
                  rw [HStep2.out]
                  exact hv1
                case measure => simp [intOf]
            · have hzi : ((cu.toNat : Int) != 0) = true := by rw [bne_iff_ne]; omega
              have HStep2 := hide (show beN (N / 256 ^ (4 * i + k)) = L ++ [cu] by
                have := HStep.out
                rw [if_neg (fun h => hz h.1)] at this
                exact this)
              clear HStep hz
              go_wp2_with (at_builtin; refine wpList_app_bs rfl (.tmp 45) (.tmp 47) rfl (B + 1) _ _ rfl (hr3.alloc _) wr.heap.size 1 [cu] rfl rfl (heap_alloc_new wr _) (by omega) (by simp; omega) ?_; intro v1 w1 hv1 hg1)
              have hB3 : Below (B + 1) W0 w1 := (hBr2.alloc hBs _).grown hg1 (by simp; omega) (fun _ hk => (World.ownsRow.lt hr3 _ hk).1)
              clear hr3 hg1 hBr2
              go_roundw
              case rel =>
                refine ⟨k, by go_num, by omega, ?_, hB3⟩
                rw [HStep2.out]
                exact hv1
              case measure => simp [intOf]
set_option maxRecDepth 100000 in
set_option maxHeartbeats 2000000 in
theorem iAdd_neg (X Y : Nat) (hle : Y ≤ X) (w : World) (hbX : Sml X) (hbY : Sml Y) :
    Calls Try.prog 31 #[.agg #[.bool false, .string ⟨(beN X).toArray⟩], .agg #[.bool true, .string ⟨(beN Y).toArray⟩]] w fun e w' => e = .returned (.agg #[.bool false, .string ⟨(beN (X - Y)).toArray⟩]) ∧ Below w.heap.size w w' := by
  obtain ⟨sx, hsx⟩ : ∃ sx : ByteArray, sx = ⟨(beN X).toArray⟩ := ⟨_, rfl⟩
  obtain ⟨sy, hsy⟩ : ∃ sy : ByteArray, sy = ⟨(beN Y).toArray⟩ := ⟨_, rfl⟩
  have HX := hide (fun W => idigits_any false sx X hsx (by have := hbX.bytes; omega) W)
  have HY := hide (fun W => idigits_any true sy Y hsy (by have := hbY.bytes; omega) W)
  have HA := hide (fun vx vy W (hx : NatV W vx X) (hy : NatV W vy Y) => isub_any X Y vx vy W hle hx hy hbX hbY)
  have HC := hide (fun vx vy W (hx : NatV W vx X) (hy : NatV W vy Y) => icompare_ge X Y vx vy W hle hx hy hbX hbY)
  have HL := hide (fun l (hl : Trm (X - Y) l) => show l ≤ 10000 by
    obtain ⟨m, hm, h⟩ := hbX
    have h3 : X - Y < 4294967296 ^ m := Nat.lt_of_le_of_lt (Nat.sub_le _ _) h
    have := hl.le h3
    omega)
  have hR : Calls Try.prog 31 #[.agg #[.bool false, .string sx], .agg #[.bool true, .string sy]] w fun e w' => e = .returned (.agg #[.bool false, .string ⟨(beN (X - Y)).toArray⟩]) ∧ Below w.heap.size w w' := by
    clear hsx hsy hbX hbY
    obtain ⟨c0, c1, c2, hs0, hB0⟩ := boxes3 w false true false sx sy ⟨#[]⟩
    go_enter Try.func31, Try.ntmps31
    go_wp2_with fail
    generalize ((w.alloc (.cells #[.bool false, .string sx] 39)).alloc (.cells #[.bool true, .string sy] 39)).alloc (.cells #[.bool false, .string ⟨#[]⟩] 39) = W0 at c0 c1 c2 hs0 hB0 ⊢
    obtain ⟨B, hBB⟩ : ∃ B, w.heap.size = B := ⟨_, rfl⟩
    rw [hBB] at c0 c1 c2 hs0 hB0 ⊢
    obtain ⟨R, hRR⟩ : ∃ R, R = B + 1 + 1 := ⟨_, rfl⟩
    have l2 : R < B + 1 + 1 + 1 := by omega
    rw [← hRR] at c2 ⊢
    have HRR := hide hRR
    clear hRR
    have C0 := hide c0
    have C1 := hide c1
    have hAcc : Below (B + 1 + 1 + 1) W0 W0.drew := (Below.refl _ _).drew
    have hSz := hs0
    have l0 : B < B + 1 + 1 + 1 := by omega
    have l1 : B + 1 < B + 1 + 1 + 1 := by omega
    have f0 := c0.c0
    have f1 := c0.c1
    have f2 := c1.c0
    have f3 := c1.c1
    go_region_held3 (fun W => W.cell? ⟨B, 0, none⟩ = some (.bool false) ∧ W.cell? ⟨B, 1, none⟩ = some (.string sx) ∧ W.cell? ⟨B + 1, 0, none⟩ = some (.bool true) ∧ W.cell? ⟨B + 1, 1, none⟩ = some (.string sy)) (first | exact ⟨f0, f1, f2, f3⟩ | exact ⟨(hAcc.cell (p := ⟨B, 0, none⟩) l0).trans f0, (hAcc.cell (p := ⟨B, 1, none⟩) l0).trans f1, (hAcc.cell (p := ⟨B + 1, 0, none⟩) l1).trans f2, (hAcc.cell (p := ⟨B + 1, 1, none⟩) l1).trans f3⟩)
      (first
        | (go_at_call_of 56 sx; refine (HX.out _).mono ?_; rintro e w1 ⟨vx, rfl, hnx, hB1⟩; (try replace hny := hny.below hB1); replace hAcc := hAcc.trans (hB1.mono (Nat.le_trans (Nat.le_of_eq hSz.symm) hAcc.size)))
        | (go_at_call_of 56 sy; refine (HY.out _).mono ?_; rintro e w1 ⟨vy, rfl, hny, hB1⟩; (try replace hnx := hnx.below hB1); replace hAcc := hAcc.trans (hB1.mono (Nat.le_trans (Nat.le_of_eq hSz.symm) hAcc.size))))
    have g0 := (hAcc.cell (p := ⟨B, 0, none⟩) l0).trans f0
    have g2 := (hAcc.cell (p := ⟨B + 1, 0, none⟩) l1).trans f2
    have hAcc0 : Below (B + 1 + 1 + 1) W0 w1 := hAcc
    have hsz1 : B + 1 + 1 + 1 ≤ w1.heap.size := by have := hAcc.size; omega
    have HCC := hide (HC.out vx vy w1 hnx hny)
    have HNX0 := hide hnx
    have HNY0 := hide hny
    have k2 := c2.below hAcc l2
    clear hnx hny hB1 f1 f3 HX HY
    go_wp2_with fail
    refine HCC.out.mono ?_
    rintro e w2 ⟨⟨z, rfl, hz0⟩, q2, rfl⟩
    have hAq : Below (B + 1 + 1 + 1) w1 (w1.drewN q2) := belowN (Below.refl _ _) q2
    have hzd : decide (z < 0) = false := decide_eq_false (by omega)
    have HNX := hide ((HNX0.out.below (belowN (Below.refl _ _) q2)).below (Below.refl _ _).drew)
    have HNY := hide ((HNY0.out.below (belowN (Below.refl _ _) q2)).below (Below.refl _ _).drew)
    replace g0 := (hAq.cell (p := ⟨B, 0, none⟩) l0).trans g0
    replace g2 := (hAq.cell (p := ⟨B + 1, 0, none⟩) l1).trans g2
    replace k2 := k2.below hAq l2
    replace hAcc0 := hAcc0.trans hAq
    replace hsz1 : B + 1 + 1 + 1 ≤ (w1.drewN q2).heap.size := hsz1
    generalize w1.drewN q2 = w1 at g0 g2 k2 hAcc0 hsz1 HNX HNY ⊢
    clear HCC HNX0 HNY0 hAq
    go_wp2_with fail
    have hAcc : Below (B + 1 + 1 + 1) w1 w1.drew := (Below.refl _ _).drew
    have r0 := k2.c0
    have r1 := k2.c1
    have z0 := k2.z0
    have z1 := k2.z1
    have hBR : B + 1 ≤ R := by have := HRR.out; omega
    have lB : B < B + 1 := by omega
    go_region_held3 (fun W => W.cell? ⟨B, 0, none⟩ = some (.bool false))
      (first | exact g0 | exact (hAcc.cell (p := ⟨B, 0, none⟩) l0).trans g0 | exact ((Below.pair (Below.refl (B + 1) _) hBR _ _).cell (p := ⟨B, 0, none⟩) lB).trans ((hAcc.cell (p := ⟨B, 0, none⟩) l0).trans g0))
      (first
        | (go_at_call 60; refine (HA.out vx vy _ HNX.out HNY.out).mono ?_; rintro e w2 ⟨v3, rfl, hn3, hB2⟩; obtain ⟨A3, l3, c3, rfl, ht3, hlc3, ha3⟩ := hn3; have HT3 := hide ht3; have HL3 := hide (HL.out l3 ht3); have HA3 := hide ha3; have HLC := hide hlc3; clear ht3 ha3 hlc3; replace hAcc := hAcc.trans (hB2.mono hsz1))
        | (go_at_call 57; refine (inumber_agg A3 l3 c3 (X - Y) _ HA3.out (hide HT3.out.1) HL3.out HLC.out).mono ?_; rintro e w3 ⟨rfl, hB3⟩; replace hAcc := hAcc.trans (hB3.mono (Nat.le_trans hsz1 hAcc.size)); have q0 := (hAcc.cell (p := ⟨R, 0, none⟩) l2).trans r0; have q1 := (hAcc.cell (p := ⟨R, 1, none⟩) l2).trans r1; have y0 := (hAcc.frozen (p := ⟨R, 0, none⟩) l2).trans z0; have y1 := (hAcc.frozen (p := ⟨R, 1, none⟩) l2).trans z1))
    all_goals (
      go_wp2
      refine bodyPost_ret (ret_apiInt rfl _ _ R _ rfl ((k2.below hAcc l2).set_ _ _) rfl) rfl ?_
      refine ⟨rfl, ?_⟩
      rw [hBB]
      exact Below.pair ((hB0.trans (hAcc0.mono (by omega))).trans (hAcc.mono (by omega))) (by omega) _ _)
  rw [hsx, hsy] at hR
  exact hR
set_option maxRecDepth 100000 in
set_option maxHeartbeats 2000000 in
theorem iNeg_pos (Y : Nat) (hY : 0 < Y) (w : World) (hbY : Sml Y) :
    Calls Try.prog 86 #[.agg #[.bool false, .string ⟨(beN Y).toArray⟩]] w fun e w' => e = .returned (.agg #[.bool true, .string ⟨(beN Y).toArray⟩]) ∧ Below w.heap.size w w' := by
  obtain ⟨sy, hsy⟩ : ∃ sy : ByteArray, sy = ⟨(beN Y).toArray⟩ := ⟨_, rfl⟩
  have HD := hide (fun W => idigits_any false sy Y hsy (by have := hbY.bytes; omega) W)
  have HL := hide (fun l (hl : Trm Y l) => show l ≤ 10000 by
    obtain ⟨m, hm, h⟩ := hbY
    have := hl.le h
    omega)
  have HN := hide (fun A m c W (hA : NatC W A m Y) h1 h2 h3 => inumber_neg A m c Y W hA h1 h2 h3 hY)
  have hR : Calls Try.prog 86 #[.agg #[.bool false, .string sy]] w fun e w' => e = .returned (.agg #[.bool true, .string ⟨(beN Y).toArray⟩]) ∧ Below w.heap.size w w' := by
    clear hsy hbY
    obtain ⟨c0, c1, hs0, hB0⟩ := boxes2 w false false sy ⟨#[]⟩
    go_enter Try.func86, Try.ntmps86
    go_wp2_with fail
    generalize (w.alloc (.cells #[.bool false, .string sy] 39)).alloc (.cells #[.bool false, .string ⟨#[]⟩] 39) = W0 at c0 c1 hs0 hB0 ⊢
    obtain ⟨B, hBB⟩ : ∃ B, w.heap.size = B := ⟨_, rfl⟩
    rw [hBB] at c0 c1 hs0 hB0
    obtain ⟨R, hRR⟩ : ∃ R, B + 1 = R := ⟨_, rfl⟩
    rw [hRR] at c1 hs0
    have lR : R < R + 1 := Nat.lt_succ_self _
    have lB : B < R + 1 := by omega
    have hBR : B ≠ R := by omega
    have k : ResI W0.drew B false sy := c0
    have hAcc : Below (R + 1) W0 W0.drew := (Below.refl _ _).drew
    go_wp2_with fail
    go_region_held3 (fun W => W.cell? ⟨B, 0, none⟩ = some (.bool false) ∧ W.cell? ⟨B, 1, none⟩ = some (.string sy))
      (first | with_reducible exact ⟨k.c0, k.c1⟩ | with_reducible exact ⟨(k.other hBR _ _).c0, (k.other hBR _ _).c1⟩)
      (first
        | (go_at_call 56; refine (HD.out _).mono ?_; rintro e w2 ⟨v3, rfl, hn3, hB2⟩; obtain ⟨A3, l3, c3, rfl, ht3, hlc3, ha3⟩ := hn3; have HT3 := hide ht3; have HL3 := hide (HL.out l3 ht3); have HA3 := hide ha3; have HLC := hide hlc3; clear ht3 ha3 hlc3; replace hAcc := hAcc.trans (hB2.mono (Nat.le_trans (Nat.le_of_eq hs0.symm) hAcc.size)); replace k := c0.below hAcc lB)
        | (go_at_call 57; refine (HN.out A3 l3 c3 _ HA3.out (hide HT3.out.1) HL3.out HLC.out).mono ?_; rintro e w3 ⟨rfl, hB3⟩; replace hAcc := hAcc.trans (hB3.mono (Nat.le_trans (Nat.le_of_eq hs0.symm) hAcc.size)); replace k := c0.below hAcc lB; have q2 := c1.below hAcc lR; have y0 := q2.c0; have y1 := q2.c1; have z0 := q2.z0; have z1 := q2.z1))
    all_goals (
      go_wp2
      refine bodyPost_ret (ret_apiInt rfl _ _ R _ rfl ((c1.below hAcc lR).set_ _ _) rfl) rfl ?_
      refine ⟨rfl, ?_⟩
      rw [hBB]
      exact Below.pair (hB0.trans (hAcc.mono (by omega))) (by omega) _ _)
  rw [hsy] at hR
  exact hR
end Go.Proofs.Ytijeogengbphdaa
