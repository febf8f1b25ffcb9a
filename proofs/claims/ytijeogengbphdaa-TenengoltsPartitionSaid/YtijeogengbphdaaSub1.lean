/- integer.compare (not less), subtract: their contracts. -/
import Derived.Test.YtijeogengbphdaaIAdd
import Derived.BigQuiet
set_option linter.unusedVariables false
namespace Go.Proofs.Ytijeogengbphdaa
open Go.RowKit
/-! ### plain -/
theorem hi_lt {X Y W i : Nat} (hW : 0 < W) (h : X / W ^ (i + 1) = Y / W ^ (i + 1)) (hlt : X / W ^ i % W < Y / W ^ i % W) : X < Y := by
  apply Nat.lt_of_not_le
  intro hle
  have h1 : Y / W ^ i ≤ X / W ^ i := Nat.div_le_div_right hle
  rw [div_succ, div_succ] at h
  have hx := Nat.div_add_mod (X / W ^ i) W
  have hy := Nat.div_add_mod (Y / W ^ i) W
  rw [h] at hx
  omega
theorem sub_borrow (W X Y i c : Nat) (hW : 0 < W) (hle : Y ≤ X) (h : (X - Y) / W ^ i + Y / W ^ i + c = X / W ^ i) :
    ((X - Y) / W ^ i % W + Y / W ^ i % W + c) % W = X / W ^ i % W ∧ (X - Y) / W ^ (i + 1) + Y / W ^ (i + 1) + ((X - Y) / W ^ i % W + Y / W ^ i % W + c) / W = X / W ^ (i + 1) := by
  rw [div_succ, div_succ, div_succ, ← h]
  generalize (X - Y) / W ^ i = d
  generalize Y / W ^ i = y
  constructor
  · rw [Nat.add_mod (d % W + y % W), ← Nat.add_mod d y, ← Nat.add_mod]
  · have hd := Nat.div_add_mod d W
    have hy := Nat.div_add_mod y W
    have e : d + y + c = W * (d / W + y / W) + (d % W + y % W + c) := by rw [Nat.mul_add]; omega
    rw [e, Nat.mul_add_div hW]
set_option maxRecDepth 100000 in
set_option maxHeartbeats 4000000 in
theorem icompare_ge (X Y : Nat) (vx vy : Value) (w : World) (hle : Y ≤ X) (hX : NatV w vx X) (hY : NatV w vy Y) (hbX : Sml X) (hbY : Sml Y) :
    Calls Try.prog 59 #[vx, vy] w fun e w' => (∃ z : Int, e = .returned (.int .i64 z) ∧ 0 ≤ z) ∧ ∃ q, w' = w.drewN q := by
  obtain ⟨AX, lX, cX, rfl, hTX, hlcX, hAX⟩ := hX
  obtain ⟨AY, lY, cY, rfl, hTY, hlcY, hAY⟩ := hY
  have hX9 : lX ≤ 2000 := by obtain ⟨m, hm, h⟩ := hbX; have := hTX.le h; omega
  have hY9 : lY ≤ 2000 := by obtain ⟨m, hm, h⟩ := hbY; have := hTY.le h; omega
  have hll : lY ≤ lX := hTY.le (Nat.lt_of_le_of_lt hle hTX.1)
  by_cases hne : lX = lY
  · subst hne
    have HX := hide hAX
    have HY := hide hAY
    have HLE := hide hle
    have HTX := hide hTX
    have HTY := hide hTY
    have hz : ((lX : Int) != (lX : Int)) = false := by simp
    clear hAX hAY hTX hTY hbX hbY hle
    go_enter Try.func59, Try.ntmps59
    go_wp2
    go_loopw [5] (fun iv wr => ∃ i : Nat, iv = .int .i64 ((i : Int) - 1) ∧ i ≤ lX ∧ Hid (X / 4294967296 ^ i = Y / 4294967296 ^ i) ∧ ∃ q, wr = w.drewN q) (fun iv _ => (intOf iv + 1).toNat)
    case atStart => exact ⟨lX, rfl, Nat.le_refl _, hide (by rw [Nat.div_eq_of_lt HTX.out.1, Nat.div_eq_of_lt HTY.out.1]), 0, rfl⟩
    case round =>
      obtain ⟨i, rfl, hi, hK, q, rfl⟩ := hrel
      cases i with
      | zero =>
        go_wp2
        go_ret
        exact ⟨⟨0, rfl, Int.le_refl _⟩, q, rfl⟩
      | succ i =>
        rw [show (((i + 1 : Nat) : Int) - 1) = (i : Int) by omega]
        obtain ⟨gX, rfl, hgX, hcX⟩ := HX.out (by omega)
        obtain ⟨gY, rfl, hgY, hcY⟩ := HY.out (by omega)
        have hx := hcX i (by omega)
        have hy := hcY i (by omega)
        obtain ⟨d, hd⟩ : ∃ d, d = X / 4294967296 ^ i % 4294967296 := ⟨_, rfl⟩
        obtain ⟨d2, hd2⟩ : ∃ d2, d2 = Y / 4294967296 ^ i % 4294967296 := ⟨_, rfl⟩
        rw [← hd] at hx
        rw [← hd2] at hy
        have hi0 : (0 : Int) ≤ (i : Int) := by omega
        have hi1 : (i : Int) < (lX : Int) := by omega
        have hnl : ¬ d < d2 := fun h => by
          have := hi_lt (by decide) hK.out (by rw [← hd, ← hd2]; exact h)
          have := HLE.out
          omega
        have HD := hide hd
        have HD2 := hide hd2
        clear hcX hcY hd hd2
        have hx' : (w.drewN q).cell? ⟨gX, i, none⟩ = some (.int .u32 d) := hx
        have hy' : (w.drewN q).cell? ⟨gY, i, none⟩ = some (.int .u32 d2) := hy
        by_cases he : d = d2
        · have hb : ((d : Int) != (d2 : Int)) = false := by rw [he]; simp
          have HE := hide (show X / 4294967296 ^ i = Y / 4294967296 ^ i by
            have h1 := Nat.div_add_mod (X / 4294967296 ^ i) 4294967296
            have h2 := Nat.div_add_mod (Y / 4294967296 ^ i) 4294967296
            have h3 := hK.out
            rw [div_succ, div_succ] at h3
            have h4 := HD.out
            have h5 := HD2.out
            omega)
          clear he hnl hK
          go_wp2_with fail
          go_quiet (fail)
          go_wp2
          go_roundw
          case rel => exact ⟨i, rfl, by omega, HE, _, rfl⟩
          case measure => simp [intOf]
        · have hb : ((d : Int) != (d2 : Int)) = true := by rw [bne_iff_ne]; omega
          have hb2 : decide ((d : Int) < (d2 : Int)) = false := decide_eq_false (by omega)
          clear he hK
          go_wp2_with fail
          go_quiet (fail)
          go_wp2_with fail
          go_quiet (fail)
          go_wp2
          go_ret
          exact ⟨⟨1, rfl, by decide⟩, _, (by simp; rfl)⟩
  · have hz : ((lX : Int) != (lY : Int)) = true := by rw [bne_iff_ne]; omega
    have hz2 : decide ((lX : Int) < (lY : Int)) = false := decide_eq_false (by omega)
    clear hAX hAY hTX hTY hbX hbY hle
    go_enter Try.func59, Try.ntmps59
    go_wp2
    go_ret
    exact ⟨⟨1, rfl, by decide⟩, 0, rfl⟩
-- SUBTRACT
set_option maxRecDepth 100000 in
set_option maxHeartbeats 4000000 in
theorem isub_any (X Y : Nat) (vx vy : Value) (w : World) (hle : Y ≤ X) (hX : NatV w vx X) (hY : NatV w vy Y) (hbX : Sml X) (hbY : Sml Y) :
    Calls Try.prog 60 #[vx, vy] w fun e w' => ∃ v, e = .returned v ∧ NatV w' v (X - Y) ∧ Below w.heap.size w w' := by
  obtain ⟨AX, lX, cX, rfl, hTX, hlcX, hAX⟩ := hX
  obtain ⟨AY, lY, cY, rfl, hTY, hlcY, hAY⟩ := hY
  have hX9 : lX ≤ 2000 := by obtain ⟨m, hm, h⟩ := hbX; have := hTX.le h; omega
  have hY9 : lY ≤ 2000 := by obtain ⟨m, hm, h⟩ := hbY; have := hTY.le h; omega
  have hll : lY ≤ lX := hTY.le (Nat.lt_of_le_of_lt hle hTX.1)
  have HX := hide hAX
  have HY := hide hAY
  have HTX := hide hTX
  have HTY := hide hTY
  have HLE := hide hle
  have hM7 : lX ≤ 70000 := by omega
  have hmk := fun W => run_make_nat lX hM7 W
  obtain ⟨B, hBB⟩ : ∃ B, w.heap.size = B := ⟨_, rfl⟩
  have hW1 : Limb (w.alloc (Obj.cells ((limbs lX 0).map u32v).toArray 81)) B (limbs lX 0) := by rw [← hBB]; exact Limb.new_ _ _ rfl
  have hW2 : Below B w (w.alloc (Obj.cells ((limbs lX 0).map u32v).toArray 81)) := by rw [← hBB]; exact (Below.refl _ w).alloc (Nat.le_refl _) _
  clear hAX hAY hTX hTY hbX hbY hle
  obtain ⟨D, hD⟩ : ∃ D, D = X - Y := ⟨_, rfl⟩
  rw [← hD]
  have HD := hide hD
  clear hD
  go_enter Try.func60, Try.ntmps60
  go_wp2
  generalize w.alloc (Obj.cells ((limbs lX 0).map u32v).toArray 81) = W1 at hW1 hW2 ⊢
  go_loopw [6, 14] (fun cv iv wr => ∃ i c : Nat, iv = .int .i64 i ∧ cv = .int .i64 c ∧ i ≤ lX ∧ c ≤ 1 ∧ Hid (D / 4294967296 ^ i + Y / 4294967296 ^ i + c = X / 4294967296 ^ i) ∧ Limb wr B (limbs lX (D % 4294967296 ^ i)) ∧ Below B w wr) (fun _ iv _ => lX - (intOf iv).toNat)
  case atStart =>
    refine ⟨0, 0, rfl, rfl, Nat.zero_le _, by decide, hide ?_, ?_, hW2⟩
    · rw [Nat.pow_zero, Nat.div_one, Nat.div_one, Nat.div_one]
      have := HD.out
      have := HLE.out
      omega
    · rw [Nat.pow_zero, Nat.mod_one]; exact hW1
  case round =>
    obtain ⟨i, c, rfl, rfl, hi, hc1, hK, hL, hB⟩ := hrel
    clear hW1 hW2
    by_cases hlt : i < lX
    · obtain ⟨gX, rfl, hgX, hcX⟩ := HX.out (by omega)
      have hx := (hB.cell (p := ⟨gX, i, none⟩) (by rw [← hBB]; exact hgX)).trans (hcX i hlt)
      obtain ⟨d, hd⟩ : ∃ d, d = X / 4294967296 ^ i % 4294967296 := ⟨_, rfl⟩
      rw [← hd] at hx
      have hdl : d < 4294967296 := by rw [hd]; exact Nat.mod_lt _ (by decide)
      have hst := sub_borrow 4294967296 X Y i c (by decide) HLE.out (by rw [← HD.out]; exact hK.out)
      rw [← HD.out, ← hd] at hst
      obtain ⟨o, ho⟩ : ∃ o, o = D / 4294967296 ^ i % 4294967296 := ⟨_, rfl⟩
      have hol : o < 4294967296 := by rw [ho]; exact Nat.mod_lt _ (by decide)
      have hnx := limbs_next lX D i
      rw [← ho] at hst hnx
      have hfz := hL.free_ i
      obtain ⟨v0, hcl⟩ := hL.some_ (k := i) (by rw [limbs_len]; exact hlt)
      have hL2 := hL.set_ i o
      rw [hnx] at hL2
      have hB2 := hB.setCell (p := ⟨B, i, none⟩) (Nat.le_refl _) (.int .u32 (o : Int))
      have HCX := hide hcX
      clear hcX hnx hd ho
      by_cases hly : i < lY
      · obtain ⟨gY, rfl, hgY, hcY⟩ := HY.out (by omega)
        have hy := (hB.cell (p := ⟨gY, i, none⟩) (by rw [← hBB]; exact hgY)).trans (hcY i hly)
        obtain ⟨d2, hd2⟩ : ∃ d2, d2 = Y / 4294967296 ^ i % 4294967296 := ⟨_, rfl⟩
        rw [← hd2] at hy hst
        have hdl2 : d2 < 4294967296 := by rw [hd2]; exact Nat.mod_lt _ (by decide)
        have HCY := hide hcY
        clear hcY hd2
        by_cases hb : o + d2 + c < 4294967296
        · have hq : (o + d2 + c) / 4294967296 = 0 := Nat.div_eq_of_lt hb
          rw [Nat.mod_eq_of_lt hb, hq] at hst
          have hv : (d : Int) - (c : Int) - (d2 : Int) = (o : Int) := by have := hst.1; omega
          have hneg : decide ((o : Int) < 0) = false := decide_eq_false (by omega)
          have hom : (o : Int) % 4294967296 = (o : Int) := by omega
          have HST := hide hst.2
          clear hst hq hK hb
          go_wp2
          go_roundw
          case rel => exact ⟨i + 1, 0, by go_num, rfl, hlt, by decide, hide HST.out, hL2, hB2⟩
          case measure => simp [intOf]; omega
        · have hq : (o + d2 + c) / 4294967296 = 1 := by omega
          have hmd : (o + d2 + c) % 4294967296 = o + d2 + c - 4294967296 := by omega
          rw [hmd, hq] at hst
          have hv : (d : Int) - (c : Int) - (d2 : Int) = (o : Int) - 4294967296 := by have := hst.1; omega
          have hneg : decide ((o : Int) - 4294967296 < 0) = true := decide_eq_true (by omega)
          have hadd : (o : Int) - 4294967296 + 4294967296 = (o : Int) := by omega
          have hom : (o : Int) % 4294967296 = (o : Int) := by omega
          have HST := hide hst.2
          clear hst hq hK hmd
          go_wp2
          go_roundw
          case rel => exact ⟨i + 1, 1, by go_num, rfl, hlt, by decide, hide HST.out, hL2, hB2⟩
          case measure => simp [intOf]; omega
      · have hY0 : Y / 4294967296 ^ i = 0 := Nat.div_eq_of_lt (Nat.lt_of_lt_of_le HTY.out.1 (Nat.pow_le_pow_right (by decide) (by omega)))
        rw [hY0, Nat.zero_mod, Nat.add_zero] at hst
        clear hY0
        by_cases hb : o + c < 4294967296
        · have hq : (o + c) / 4294967296 = 0 := Nat.div_eq_of_lt hb
          rw [Nat.mod_eq_of_lt hb, hq] at hst
          have hv : (d : Int) - (c : Int) = (o : Int) := by have := hst.1; omega
          have hneg : decide ((o : Int) < 0) = false := decide_eq_false (by omega)
          have hom : (o : Int) % 4294967296 = (o : Int) := by omega
          have HST := hide hst.2
          clear hst hq hK hb
          go_wp2
          go_roundw
          case rel => exact ⟨i + 1, 0, by go_num, rfl, hlt, by decide, hide HST.out, hL2, hB2⟩
          case measure => simp [intOf]; omega
        · have hq : (o + c) / 4294967296 = 1 := by omega
          have hmd : (o + c) % 4294967296 = o + c - 4294967296 := by omega
          rw [hmd, hq] at hst
          have hv : (d : Int) - (c : Int) = (o : Int) - 4294967296 := by have := hst.1; omega
          have hneg : decide ((o : Int) - 4294967296 < 0) = true := decide_eq_true (by omega)
          have hadd : (o : Int) - 4294967296 + 4294967296 = (o : Int) := by omega
          have hom : (o : Int) % 4294967296 = (o : Int) := by omega
          have HST := hide hst.2
          clear hst hq hK hmd
          go_wp2
          go_roundw
          case rel => exact ⟨i + 1, 1, by go_num, rfl, hlt, by decide, hide HST.out, hL2, hB2⟩
          case measure => simp [intOf]; omega
    · obtain rfl : i = lX := by omega
      have hDl : D < 4294967296 ^ i := by have := HTX.out.1; have := HD.out; omega
      rw [Nat.mod_eq_of_lt hDl] at hL
      have HT := hide (itrim_any (some ⟨B, 0, none⟩) i i D wr hL.nat hDl hM7 (Nat.le_refl _))
      have HLL := hide hL
      clear hDl hL hK
      go_wp2_with (refine HT.out.mono ?_; rintro e w' ⟨l, rfl, ht, hl, rfl⟩)
      go_ret
      refine ⟨_, rfl, ⟨_, l, i, rfl, ht, hl, HLL.out.nat.less hl⟩, ?_⟩
      rw [hBB]
      exact hB
end Go.Proofs.Ytijeogengbphdaa
