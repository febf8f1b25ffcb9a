/- integer.add, Add, Of: their contracts (numbers that are not negative). -/
import Derived.Test.YtijeogengbphdaaNat
import Derived.Deep.RegionHeld3
set_option linter.unusedVariables false
namespace Go.Proofs.Ytijeogengbphdaa
open Go.RowKit
/-- a number of at most 2000 limbs -/
def Sml (N : Nat) : Prop := ∃ m, m ≤ 2000 ∧ N < 4294967296 ^ m
theorem Sml.bytes {N : Nat} (h : Sml N) : blen N ≤ 8000 := by
  obtain ⟨m, hm, h⟩ := h
  have h4 : blen N ≤ 4 * m := by
    refine blen_le (Nat.lt_of_lt_of_le h ?_)
    rw [show (4294967296 : Nat) = 256 ^ 4 from rfl, ← Nat.pow_mul]
    exact Nat.le_refl _
  omega
theorem Sml.of64 {N : Nat} (h : N ≤ 18446744073709551616) : Sml N := ⟨3, by decide, Nat.lt_of_le_of_lt h (by decide)⟩
set_option maxRecDepth 100000 in
set_option maxHeartbeats 2000000 in
theorem iadd_any (X Y : Nat) (vx vy : Value) (w : World) (hX : NatV w vx X) (hY : NatV w vy Y) (hbX : Sml X) (hbY : Sml Y) :
    Calls Try.prog 58 #[vx, vy] w fun e w' => ∃ v, e = .returned v ∧ NatV w' v (X + Y) ∧ Below w.heap.size w w' := by
  obtain ⟨AX, lX, cX, rfl, hTX, hlcX, hAX⟩ := hX
  obtain ⟨AY, lY, cY, rfl, hTY, hlcY, hAY⟩ := hY
  have hX9 : lX ≤ 9000 := by obtain ⟨m, hm, h⟩ := hbX; have := hTX.le h; omega
  have hY9 : lY ≤ 9000 := by obtain ⟨m, hm, h⟩ := hbY; have := hTY.le h; omega
  have HX := hide hAX
  have HY := hide hAY
  have HTX := hide hTX
  have HTY := hide hTY
  clear hAX hAY hTX hTY hbX hbY
  go_enter Try.func58, Try.ntmps58
  by_cases hll : lX < lY
  · have hdec : decide ((lX : Int) < (lY : Int)) = true := decide_eq_true (by omega)
    rw [Nat.add_comm X Y]
    obtain ⟨M, hM⟩ : ∃ M, M = lY + 1 := ⟨_, rfl⟩
    have hMi : (lY : Int) + 1 = (M : Int) := by omega
    have hM7 : M ≤ 70000 := by omega
    have hmk := fun W => run_make_nat M hM7 W
    have HM := hide hM
    have hlX : lX ≤ lY := by omega
    clear hM
    go_wp2
    obtain ⟨B, hBB⟩ : ∃ B, w.heap.size = B := ⟨_, rfl⟩
    rw [hBB]
    have hW1 : Limb (w.alloc (Obj.cells ((limbs M 0).map u32v).toArray 81)) B (limbs M 0) := by rw [← hBB]; exact Limb.new_ _ _ rfl
    have hW2 : Below B w (w.alloc (Obj.cells ((limbs M 0).map u32v).toArray 81)) := by rw [← hBB]; exact (Below.refl _ w).alloc (Nat.le_refl _) _
    go_loopw [6, 22] (fun cv iv wr => ∃ i k : Nat, iv = .int .i64 i ∧ cv = .int .u64 k ∧ i ≤ lY ∧ Hid ((Y + X) / 4294967296 ^ i = Y / 4294967296 ^ i + X / 4294967296 ^ i + k) ∧ k ≤ 1 ∧ Limb wr B (limbs M ((Y + X) % 4294967296 ^ i)) ∧ Below B w wr) (fun _ iv _ => lY - (intOf iv).toNat)
    case atStart =>
      refine ⟨0, 0, rfl, rfl, Nat.zero_le _, hide (by rw [Nat.pow_zero, Nat.div_one, Nat.div_one, Nat.div_one]; rfl), by decide, ?_, hW2⟩
      rw [Nat.pow_zero, Nat.mod_one]
      exact hW1
    case round =>
      obtain ⟨i, k, rfl, rfl, hi, hK, hk1, hL, hB⟩ := hrel
      by_cases hlt : i < lY
      · obtain ⟨gY, rfl, hgY, hcY⟩ := HY.out (by omega)
        have hx := (hB.cell (p := ⟨gY, i, none⟩) (by rw [← hBB]; exact hgY)).trans (hcY i hlt)
        obtain ⟨d, hd⟩ : ∃ d, d = Y / 4294967296 ^ i % 4294967296 := ⟨_, rfl⟩
        rw [← hd] at hx
        have hdl : d < 4294967296 := by rw [hd]; exact Nat.mod_lt _ (by decide)
        have hcar := add_carry 4294967296 Y X i k (by decide) hK.out
        have hcl := hL.cell (k := i) (by rw [limbs_len]; have := HM.out; omega)
        have hfz := hL.free_ i
        have HCY := hide hcY
        clear hcY
        by_cases hly : i < lX
        · obtain ⟨gX, rfl, hgX, hcX⟩ := HX.out (by omega)
          have hy := (hB.cell (p := ⟨gX, i, none⟩) (by rw [← hBB]; exact hgX)).trans (hcX i hly)
          obtain ⟨d2, hd2⟩ : ∃ d2, d2 = X / 4294967296 ^ i % 4294967296 := ⟨_, rfl⟩
          rw [← hd2] at hy
          have hdl2 : d2 < 4294967296 := by rw [hd2]; exact Nat.mod_lt _ (by decide)
          rw [← hd, ← hd2] at hcar
          have HC := hide hcar
          have HCX := hide hcX
          clear hd hd2 hcar hcX hK
          go_wp2
          rw [show ((d : Int) + k + d2) % 4294967296 = (((d + d2 + k) % 4294967296 : Nat) : Int) by omega, show ((d : Int) + k + d2) / 4294967296 = (((d + d2 + k) / 4294967296 : Nat) : Int) by omega]
          have hL2 := hL.set_ i ((d + d2 + k) % 4294967296)
          rw [← HC.out.1, limbs_next, HC.out.1] at hL2
          have hB2 := hB.setCell (p := ⟨B, i, none⟩) (Nat.le_refl _) (.int .u32 (((d + d2 + k) % 4294967296 : Nat) : Int))
          go_roundw
          case rel => exact ⟨i + 1, (d + d2 + k) / 4294967296, by go_num, rfl, hlt, hide HC.out.2, by omega, hL2, hB2⟩
          case measure => simp [intOf]; omega
        · have hX0 : X / 4294967296 ^ i = 0 := Nat.div_eq_of_lt (Nat.lt_of_lt_of_le HTX.out.1 (Nat.pow_le_pow_right (by decide) (by omega)))
          rw [← hd, hX0, Nat.zero_mod, Nat.add_zero] at hcar
          have HC := hide hcar
          clear hd hcar hK hX0
          go_wp2
          rw [show ((d : Int) + k) % 4294967296 = (((d + k) % 4294967296 : Nat) : Int) by omega, show ((d : Int) + k) / 4294967296 = (((d + k) / 4294967296 : Nat) : Int) by omega]
          have hL2 := hL.set_ i ((d + k) % 4294967296)
          rw [← HC.out.1, limbs_next, HC.out.1] at hL2
          have hB2 := hB.setCell (p := ⟨B, i, none⟩) (Nat.le_refl _) (.int .u32 (((d + k) % 4294967296 : Nat) : Int))
          go_roundw
          case rel => exact ⟨i + 1, (d + k) / 4294967296, by go_num, rfl, hlt, hide HC.out.2, by omega, hL2, hB2⟩
          case measure => simp [intOf]; omega
      · obtain rfl : i = lY := by omega
        have hY0 : Y / 4294967296 ^ i = 0 := Nat.div_eq_of_lt HTY.out.1
        have hX0 : X / 4294967296 ^ i = 0 := Nat.div_eq_of_lt (Nat.lt_of_lt_of_le HTX.out.1 (Nat.pow_le_pow_right (by decide) hlX))
        have hK2 : (Y + X) / 4294967296 ^ i = k := by have := hK.out; omega
        have hlt : Y + X < 4294967296 ^ M := by
          rw [HM.out, Nat.pow_succ]
          have := Nat.div_add_mod (Y + X) (4294967296 ^ i)
          have h2 := Nat.mod_lt (Y + X) (show 0 < 4294967296 ^ i from Nat.pow_pos (by decide))
          have h3 : 4294967296 ^ i * ((Y + X) / 4294967296 ^ i) ≤ 4294967296 ^ i * 1 := Nat.mul_le_mul_left _ (by omega)
          omega
        have hcl := hL.cell (k := i) (by rw [limbs_len]; have := HM.out; omega)
        have hfz := hL.free_ i
        have hL2 := hL.set_ i k
        have hB2 := hB.setCell (p := ⟨B, i, none⟩) (Nat.le_refl _) (.int .u32 (k : Int))
        have hiM : i < M := by have := HM.out; omega
        rw [show (limbs M ((Y + X) % 4294967296 ^ i)).set i k = limbs M (Y + X) by
          have := limbs_next M (Y + X) i
          rw [hK2, Nat.mod_eq_of_lt (show k < 4294967296 by omega), ← HM.out, Nat.mod_eq_of_lt hlt] at this
          exact this] at hL2
        have HT := hide (itrim_any (some ⟨B, 0, none⟩) M M (Y + X) _ hL2.nat hlt hM7 (Nat.le_refl _))
        have hkm : (k : Int) % 4294967296 = k := by omega
        have HL2 := hide hL2
        have HK := hide hK
        clear hY0 hX0 hK2 hlt hK hL2 hL
        go_wp2_with (refine HT.out.mono ?_; rintro e w' ⟨l, rfl, ht, hl, rfl⟩)
        go_ret
        refine ⟨_, rfl, ⟨_, l, M, rfl, ht, hl, HL2.out.nat.less hl⟩, ?_⟩
        rw [hBB]
        exact hB2
  · have hdec : decide ((lX : Int) < (lY : Int)) = false := decide_eq_false (by omega)
    obtain ⟨M, hM⟩ : ∃ M, M = lX + 1 := ⟨_, rfl⟩
    have hMi : (lX : Int) + 1 = (M : Int) := by omega
    have hM7 : M ≤ 70000 := by omega
    have hmk := fun W => run_make_nat M hM7 W
    have HM := hide hM
    have hlY : lY ≤ lX := by omega
    clear hM
    go_wp2
    obtain ⟨B, hBB⟩ : ∃ B, w.heap.size = B := ⟨_, rfl⟩
    rw [hBB]
    have hW1 : Limb (w.alloc (Obj.cells ((limbs M 0).map u32v).toArray 81)) B (limbs M 0) := by rw [← hBB]; exact Limb.new_ _ _ rfl
    have hW2 : Below B w (w.alloc (Obj.cells ((limbs M 0).map u32v).toArray 81)) := by rw [← hBB]; exact (Below.refl _ w).alloc (Nat.le_refl _) _
    go_loopw [6, 22] (fun cv iv wr => ∃ i k : Nat, iv = .int .i64 i ∧ cv = .int .u64 k ∧ i ≤ lX ∧ Hid ((X + Y) / 4294967296 ^ i = X / 4294967296 ^ i + Y / 4294967296 ^ i + k) ∧ k ≤ 1 ∧ Limb wr B (limbs M ((X + Y) % 4294967296 ^ i)) ∧ Below B w wr) (fun _ iv _ => lX - (intOf iv).toNat)
    case atStart =>
      refine ⟨0, 0, rfl, rfl, Nat.zero_le _, hide (by rw [Nat.pow_zero, Nat.div_one, Nat.div_one, Nat.div_one]; rfl), by decide, ?_, hW2⟩
      rw [Nat.pow_zero, Nat.mod_one]
      exact hW1
    case round =>
      obtain ⟨i, k, rfl, rfl, hi, hK, hk1, hL, hB⟩ := hrel
      by_cases hlt : i < lX
      · obtain ⟨gX, rfl, hgX, hcX⟩ := HX.out (by omega)
        have hx := (hB.cell (p := ⟨gX, i, none⟩) (by rw [← hBB]; exact hgX)).trans (hcX i hlt)
        obtain ⟨d, hd⟩ : ∃ d, d = X / 4294967296 ^ i % 4294967296 := ⟨_, rfl⟩
        rw [← hd] at hx
        have hdl : d < 4294967296 := by rw [hd]; exact Nat.mod_lt _ (by decide)
        have hcar := add_carry 4294967296 X Y i k (by decide) hK.out
        have hcl := hL.cell (k := i) (by rw [limbs_len]; have := HM.out; omega)
        have hfz := hL.free_ i
        have HCX := hide hcX
        clear hcX
        by_cases hly : i < lY
        · obtain ⟨gY, rfl, hgY, hcY⟩ := HY.out (by omega)
          have hy := (hB.cell (p := ⟨gY, i, none⟩) (by rw [← hBB]; exact hgY)).trans (hcY i hly)
          obtain ⟨d2, hd2⟩ : ∃ d2, d2 = Y / 4294967296 ^ i % 4294967296 := ⟨_, rfl⟩
          rw [← hd2] at hy
          have hdl2 : d2 < 4294967296 := by rw [hd2]; exact Nat.mod_lt _ (by decide)
          rw [← hd, ← hd2] at hcar
          have HC := hide hcar
          have HCY := hide hcY
          clear hd hd2 hcar hcY hK
          go_wp2
          rw [show ((d : Int) + k + d2) % 4294967296 = (((d + d2 + k) % 4294967296 : Nat) : Int) by omega, show ((d : Int) + k + d2) / 4294967296 = (((d + d2 + k) / 4294967296 : Nat) : Int) by omega]
          have hL2 := hL.set_ i ((d + d2 + k) % 4294967296)
          rw [← HC.out.1, limbs_next, HC.out.1] at hL2
          have hB2 := hB.setCell (p := ⟨B, i, none⟩) (Nat.le_refl _) (.int .u32 (((d + d2 + k) % 4294967296 : Nat) : Int))
          go_roundw
          case rel => exact ⟨i + 1, (d + d2 + k) / 4294967296, by go_num, rfl, hlt, hide HC.out.2, by omega, hL2, hB2⟩
          case measure => simp [intOf]; omega
        · have hY0 : Y / 4294967296 ^ i = 0 := Nat.div_eq_of_lt (Nat.lt_of_lt_of_le HTY.out.1 (Nat.pow_le_pow_right (by decide) (by omega)))
          rw [← hd, hY0, Nat.zero_mod, Nat.add_zero] at hcar
          have HC := hide hcar
          clear hd hcar hK hY0
          go_wp2
          rw [show ((d : Int) + k) % 4294967296 = (((d + k) % 4294967296 : Nat) : Int) by omega, show ((d : Int) + k) / 4294967296 = (((d + k) / 4294967296 : Nat) : Int) by omega]
          have hL2 := hL.set_ i ((d + k) % 4294967296)
          rw [← HC.out.1, limbs_next, HC.out.1] at hL2
          have hB2 := hB.setCell (p := ⟨B, i, none⟩) (Nat.le_refl _) (.int .u32 (((d + k) % 4294967296 : Nat) : Int))
          go_roundw
          case rel => exact ⟨i + 1, (d + k) / 4294967296, by go_num, rfl, hlt, hide HC.out.2, by omega, hL2, hB2⟩
          case measure => simp [intOf]; omega
      · obtain rfl : i = lX := by omega
        have hX0 : X / 4294967296 ^ i = 0 := Nat.div_eq_of_lt HTX.out.1
        have hY0 : Y / 4294967296 ^ i = 0 := Nat.div_eq_of_lt (Nat.lt_of_lt_of_le HTY.out.1 (Nat.pow_le_pow_right (by decide) hlY))
        have hK2 : (X + Y) / 4294967296 ^ i = k := by have := hK.out; omega
        have hlt : X + Y < 4294967296 ^ M := by
          rw [HM.out, Nat.pow_succ]
          have := Nat.div_add_mod (X + Y) (4294967296 ^ i)
          have h2 := Nat.mod_lt (X + Y) (show 0 < 4294967296 ^ i from Nat.pow_pos (by decide))
          have h3 : 4294967296 ^ i * ((X + Y) / 4294967296 ^ i) ≤ 4294967296 ^ i * 1 := Nat.mul_le_mul_left _ (by omega)
          omega
        have hcl := hL.cell (k := i) (by rw [limbs_len]; have := HM.out; omega)
        have hfz := hL.free_ i
        have hL2 := hL.set_ i k
        have hB2 := hB.setCell (p := ⟨B, i, none⟩) (Nat.le_refl _) (.int .u32 (k : Int))
        have hiM : i < M := by have := HM.out; omega
        rw [show (limbs M ((X + Y) % 4294967296 ^ i)).set i k = limbs M (X + Y) by
          have := limbs_next M (X + Y) i
          rw [hK2, Nat.mod_eq_of_lt (show k < 4294967296 by omega), ← HM.out, Nat.mod_eq_of_lt hlt] at this
          exact this] at hL2
        have HT := hide (itrim_any (some ⟨B, 0, none⟩) M M (X + Y) _ hL2.nat hlt hM7 (Nat.le_refl _))
        have hkm : (k : Int) % 4294967296 = k := by omega
        have HL2 := hide hL2
        have HK := hide hK
        clear hX0 hY0 hK2 hlt hK hL2 hL
        go_wp2_with (refine HT.out.mono ?_; rintro e w' ⟨l, rfl, ht, hl, rfl⟩)
        go_ret
        refine ⟨_, rfl, ⟨_, l, M, rfl, ht, hl, HL2.out.nat.less hl⟩, ?_⟩
        rw [hBB]
        exact hB2
theorem inumber_agg (A : Option Addr) (m c N : Nat) (w : World) (hA : NatC w A m N) (hN : Hid (N < 4294967296 ^ m)) (hm : m ≤ 10000) (hmc : m ≤ c) :
    Calls Try.prog 57 #[.bool false, .slice A m c] w fun e w' => e = .returned (.agg #[.bool false, .string ⟨(beN N).toArray⟩]) ∧ Below w.heap.size w w' := inumber_any A m c N w hA hN hm hmc
theorem boxes3 (w : World) (a b c : Bool) (s t u : ByteArray) :
    ResI (((w.alloc (.cells #[.bool a, .string s] 39)).alloc (.cells #[.bool b, .string t] 39)).alloc (.cells #[.bool c, .string u] 39)) w.heap.size a s ∧
    ResI (((w.alloc (.cells #[.bool a, .string s] 39)).alloc (.cells #[.bool b, .string t] 39)).alloc (.cells #[.bool c, .string u] 39)) (w.heap.size + 1) b t ∧
    ResI (((w.alloc (.cells #[.bool a, .string s] 39)).alloc (.cells #[.bool b, .string t] 39)).alloc (.cells #[.bool c, .string u] 39)) (w.heap.size + 1 + 1) c u ∧
    (((w.alloc (.cells #[.bool a, .string s] 39)).alloc (.cells #[.bool b, .string t] 39)).alloc (.cells #[.bool c, .string u] 39)).heap.size = w.heap.size + 1 + 1 + 1 ∧
    Below w.heap.size w (((w.alloc (.cells #[.bool a, .string s] 39)).alloc (.cells #[.bool b, .string t] 39)).alloc (.cells #[.bool c, .string u] 39)) := by
  have h1 := ResI.new_ w a s
  have e1 : (w.alloc (.cells #[.bool a, .string s] 39)).heap.size = w.heap.size + 1 := by simp
  have b1 : Below w.heap.size w (w.alloc (.cells #[.bool a, .string s] 39)) := (Below.refl _ w).alloc (Nat.le_refl _) _
  generalize w.alloc (.cells #[.bool a, .string s] 39) = w1 at h1 e1 b1
  have h2 := ResI.new_ w1 b t
  have e2 : (w1.alloc (.cells #[.bool b, .string t] 39)).heap.size = w1.heap.size + 1 := by simp
  have b2 : Below w1.heap.size w1 (w1.alloc (.cells #[.bool b, .string t] 39)) := (Below.refl _ w1).alloc (Nat.le_refl _) _
  generalize w1.alloc (.cells #[.bool b, .string t] 39) = w2 at h2 e2 b2
  have h3 := ResI.new_ w2 c u
  have e3 : (w2.alloc (.cells #[.bool c, .string u] 39)).heap.size = w2.heap.size + 1 := by simp
  have b3 : Below w2.heap.size w2 (w2.alloc (.cells #[.bool c, .string u] 39)) := (Below.refl _ w2).alloc (Nat.le_refl _) _
  generalize w2.alloc (.cells #[.bool c, .string u] 39) = w3 at h3 e3 b3
  rw [e1] at h2 e2 b2
  rw [e2] at h3 e3 b3
  exact ⟨(h1.below b2 (by omega)).below b3 (by omega), h2.below b3 (by omega), h3, e3, (b1.trans (b2.mono (by omega))).trans (b3.mono (by omega))⟩
set_option maxRecDepth 100000 in
set_option maxHeartbeats 2000000 in
theorem iAdd_any (X Y : Nat) (w : World) (hbX : Sml X) (hbY : Sml Y) :
    Calls Try.prog 31 #[intV X, intV Y] w fun e w' => e = .returned (intV (X + Y)) ∧ Below w.heap.size w w' := by
  obtain ⟨sx, hsx⟩ : ∃ sx : ByteArray, sx = ⟨(beN X).toArray⟩ := ⟨_, rfl⟩
  obtain ⟨sy, hsy⟩ : ∃ sy : ByteArray, sy = ⟨(beN Y).toArray⟩ := ⟨_, rfl⟩
  have HX := hide (fun W => idigits_any false sx X hsx (by have := hbX.bytes; omega) W)
  have HY := hide (fun W => idigits_any false sy Y hsy (by have := hbY.bytes; omega) W)
  have HA := hide (fun vx vy W (hx : NatV W vx X) (hy : NatV W vy Y) => iadd_any X Y vx vy W hx hy hbX hbY)
  have HL := hide (fun l (hl : Trm (X + Y) l) => show l ≤ 10000 by
    obtain ⟨m, hm, h⟩ := hbX
    obtain ⟨m', hm', h'⟩ := hbY
    have h1 := Nat.pow_le_pow_right (show 0 < 4294967296 by decide) (show m ≤ m + m' by omega)
    have h2 := Nat.pow_le_pow_right (show 0 < 4294967296 by decide) (show m' ≤ m + m' by omega)
    have h3 : X + Y < 4294967296 ^ (m + m' + 1) := by rw [Nat.pow_succ]; omega
    have := hl.le h3
    omega)
  have hR : Calls Try.prog 31 #[.agg #[.bool false, .string sx], .agg #[.bool false, .string sy]] w fun e w' => e = .returned (intV (X + Y)) ∧ Below w.heap.size w w' := by
    clear hsx hsy hbX hbY
    obtain ⟨c0, c1, c2, hs0, hB0⟩ := boxes3 w false false false sx sy ⟨#[]⟩
    go_enter Try.func31, Try.ntmps31
    go_wp2_with fail
    generalize ((w.alloc (.cells #[.bool false, .string sx] 39)).alloc (.cells #[.bool false, .string sy] 39)).alloc (.cells #[.bool false, .string ⟨#[]⟩] 39) = W0 at c0 c1 c2 hs0 hB0 ⊢
    obtain ⟨B, hBB⟩ : ∃ B, w.heap.size = B := ⟨_, rfl⟩
    rw [hBB] at c0 c1 c2 hs0 hB0 ⊢
    obtain ⟨R, hRR⟩ : ∃ R, R = B + 1 + 1 := ⟨_, rfl⟩
    have l2 : R < B + 1 + 1 + 1 := by omega
    rw [← hRR] at c2 ⊢
    have HRR := hide hRR
    clear hRR
    have C0 := hide c0
    have C1 := hide c1
    have hAcc : Below (B + 1 + 1 + 1) W0 W0.drew := (Below.refl _ _).drew
    have hSz := hs0
    have l0 : B < B + 1 + 1 + 1 := by omega
    have l1 : B + 1 < B + 1 + 1 + 1 := by omega
    have f0 := c0.c0
    have f1 := c0.c1
    have f2 := c1.c0
    have f3 := c1.c1
    go_region_held3 (fun W => W.cell? ⟨B, 0, none⟩ = some (.bool false) ∧ W.cell? ⟨B, 1, none⟩ = some (.string sx) ∧ W.cell? ⟨B + 1, 0, none⟩ = some (.bool false) ∧ W.cell? ⟨B + 1, 1, none⟩ = some (.string sy)) (first | exact ⟨f0, f1, f2, f3⟩ | exact ⟨(hAcc.cell (p := ⟨B, 0, none⟩) l0).trans f0, (hAcc.cell (p := ⟨B, 1, none⟩) l0).trans f1, (hAcc.cell (p := ⟨B + 1, 0, none⟩) l1).trans f2, (hAcc.cell (p := ⟨B + 1, 1, none⟩) l1).trans f3⟩)
      (first
        | (go_at_call_of 56 sx; refine (HX.out _).mono ?_; rintro e w1 ⟨vx, rfl, hnx, hB1⟩; (try replace hny := hny.below hB1); replace hAcc := hAcc.trans (hB1.mono (Nat.le_trans (Nat.le_of_eq hSz.symm) hAcc.size)))
        | (go_at_call_of 56 sy; refine (HY.out _).mono ?_; rintro e w1 ⟨vy, rfl, hny, hB1⟩; (try replace hnx := hnx.below hB1); replace hAcc := hAcc.trans (hB1.mono (Nat.le_trans (Nat.le_of_eq hSz.symm) hAcc.size))))
    have g0 := (hAcc.cell (p := ⟨B, 0, none⟩) l0).trans f0
    have g2 := (hAcc.cell (p := ⟨B + 1, 0, none⟩) l1).trans f2
    have hAcc0 : Below (B + 1 + 1 + 1) W0 w1 := hAcc
    have hsz1 : B + 1 + 1 + 1 ≤ w1.heap.size := by have := hAcc.size; omega
    have HNX := hide (hnx.below (Below.refl _ _).drew)
    have HNY := hide (hny.below (Below.refl _ _).drew)
    have k2 := c2.below hAcc l2
    clear hnx hny hB1 f1 f3 HX HY
    go_wp2_with fail
    have hAcc : Below (B + 1 + 1 + 1) w1 w1.drew := (Below.refl _ _).drew
    have r0 := k2.c0
    have r1 := k2.c1
    have z0 := k2.z0
    have z1 := k2.z1
    have hBR : B + 1 ≤ R := by have := HRR.out; omega
    have lB : B < B + 1 := by omega
    go_region_held3 (fun W => W.cell? ⟨B, 0, none⟩ = some (.bool false))
      (first | exact g0 | exact (hAcc.cell (p := ⟨B, 0, none⟩) l0).trans g0 | exact ((Below.pair (Below.refl (B + 1) _) hBR _ _).cell (p := ⟨B, 0, none⟩) lB).trans ((hAcc.cell (p := ⟨B, 0, none⟩) l0).trans g0))
      (first
        | (go_at_call 58; refine (HA.out vx vy _ HNX.out HNY.out).mono ?_; rintro e w2 ⟨v3, rfl, hn3, hB2⟩; obtain ⟨A3, l3, c3, rfl, ht3, hlc3, ha3⟩ := hn3; have HT3 := hide ht3; have HL3 := hide (HL.out l3 ht3); have HA3 := hide ha3; have HLC := hide hlc3; clear ht3 ha3 hlc3; replace hAcc := hAcc.trans (hB2.mono hsz1))
        | (go_at_call 57; refine (inumber_agg A3 l3 c3 (X + Y) _ HA3.out (hide HT3.out.1) HL3.out HLC.out).mono ?_; rintro e w3 ⟨rfl, hB3⟩; replace hAcc := hAcc.trans (hB3.mono (Nat.le_trans hsz1 hAcc.size)); have q0 := (hAcc.cell (p := ⟨R, 0, none⟩) l2).trans r0; have q1 := (hAcc.cell (p := ⟨R, 1, none⟩) l2).trans r1; have y0 := (hAcc.frozen (p := ⟨R, 0, none⟩) l2).trans z0; have y1 := (hAcc.frozen (p := ⟨R, 1, none⟩) l2).trans z1))
    all_goals (
      go_wp2
      refine bodyPost_ret (ret_apiInt rfl _ _ R _ rfl ((k2.below hAcc l2).set_ _ _) rfl) rfl ?_
      refine ⟨rfl, ?_⟩
      rw [hBB]
      exact Below.pair ((hB0.trans (hAcc0.mono (by omega))).trans (hAcc.mono (by omega))) (by omega) _ _)
  rw [hsx, hsy] at hR
  unfold intV at hR ⊢
  exact hR
end Go.Proofs.Ytijeogengbphdaa
