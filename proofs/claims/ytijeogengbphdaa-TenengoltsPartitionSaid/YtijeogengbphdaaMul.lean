/- integer.multiply: its contract. -/
import Derived.Test.YtijeogengbphdaaIAdd
import Derived.Test.YtijeogengbphdaaMulP
set_option linter.unusedVariables false
namespace Go.Proofs.Ytijeogengbphdaa
open Go.RowKit
set_option maxRecDepth 100000 in
set_option maxHeartbeats 4000000 in
theorem imul_any (X Y : Nat) (vx vy : Value) (w : World) (hX : NatV w vx X) (hY : NatV w vy Y) (hbX : Sml X) (hbY : Sml Y) :
    Calls Try.prog 85 #[vx, vy] w fun e w' => ∃ v, e = .returned v ∧ NatV w' v (X * Y) ∧ Below w.heap.size w w' := by
  obtain ⟨AX, lX, cX, rfl, hTX, hlcX, hAX⟩ := hX
  obtain ⟨AY, lY, cY, rfl, hTY, hlcY, hAY⟩ := hY
  have hX9 : lX ≤ 2000 := by obtain ⟨m, hm, h⟩ := hbX; have := hTX.le h; omega
  have hY9 : lY ≤ 2000 := by obtain ⟨m, hm, h⟩ := hbY; have := hTY.le h; omega
  have HX := hide hAX
  have HY := hide hAY
  have HTX := hide hTX
  have HTY := hide hTY
  clear hAX hAY hTX hTY hbX hbY
  by_cases h0 : lX = 0
  · subst h0
    obtain rfl := HTX.out.zero
    go_enter Try.func85, Try.ntmps85
    go_wp2
    go_ret
    exact ⟨_, rfl, ⟨none, 0, 0, rfl, ⟨by rw [Nat.zero_mul]; decide, fun h => absurd h (by omega)⟩, Nat.le_refl _, fun h => absurd h (by omega)⟩, Below.refl _ _⟩
  · have hx0 : ((lX : Int) == 0) = false := by rw [beq_eq_false_iff_ne]; omega
    by_cases h1 : lY = 0
    · subst h1
      obtain rfl := HTY.out.zero
      go_enter Try.func85, Try.ntmps85
      go_wp2
      go_ret
      exact ⟨_, rfl, ⟨none, 0, 0, rfl, ⟨by rw [Nat.mul_zero]; decide, fun h => absurd h (by omega)⟩, Nat.le_refl _, fun h => absurd h (by omega)⟩, Below.refl _ _⟩
    · have hy0 : ((lY : Int) == 0) = false := by rw [beq_eq_false_iff_ne]; omega
      obtain ⟨gX, rfl, hgX, hcX⟩ := HX.out (by omega)
      obtain ⟨gY, rfl, hgY, hcY⟩ := HY.out (by omega)
      have HCX := hide hcX
      have HCY := hide hcY
      obtain ⟨M, hM⟩ : ∃ M, M = lX + lY := ⟨_, rfl⟩
      have hMi : (lX : Int) + (lY : Int) = (M : Int) := by omega
      have hM7 : M ≤ 70000 := by omega
      have hmk := fun W => run_make_nat M hM7 W
      have HM := hide hM
      have H0 := hide h0
      have H1 := hide h1
      clear hM hcX hcY h0 h1 HX HY
      go_enter Try.func85, Try.ntmps85
      go_wp2
      obtain ⟨B, hBB⟩ : ∃ B, w.heap.size = B := ⟨_, rfl⟩
      have hW1 : Limb (w.alloc (Obj.cells ((limbs M 0).map u32v).toArray 81)) B (limbs M 0) := by rw [← hBB]; exact Limb.new_ _ _ rfl
      have hW2 : Below B w (w.alloc (Obj.cells ((limbs M 0).map u32v).toArray 81)) := by rw [← hBB]; exact (Below.refl _ w).alloc (Nat.le_refl _) _
      rw [hBB] at hgX hgY ⊢
      generalize w.alloc (Obj.cells ((limbs M 0).map u32v).toArray 81) = W1 at hW1 hW2 ⊢
      go_loopw [28] (fun iv wr => ∃ i : Nat, iv = .int .i64 i ∧ i ≤ lX ∧ Limb wr B (limbs M (X % 4294967296 ^ i * Y)) ∧ Below B w wr) (fun iv _ => lX - (intOf iv).toNat)
      case atStart =>
        refine ⟨0, rfl, Nat.zero_le _, ?_, hW2⟩
        rw [Nat.pow_zero, Nat.mod_one, Nat.zero_mul]
        exact hW1
      case round =>
        obtain ⟨i, rfl, hi, hL, hB⟩ := hrel
        clear hW1 hW2
        by_cases hlt : i < lX
        · have hx := (hB.cell (p := ⟨gX, i, none⟩) hgX).trans (HCX.out i hlt)
          obtain ⟨d, hd⟩ : ∃ d, d = X / 4294967296 ^ i % 4294967296 := ⟨_, rfl⟩
          rw [← hd] at hx
          have hdl : d < 4294967296 := by rw [hd]; exact Nat.mod_lt _ (by decide)
          obtain ⟨P, hP⟩ : ∃ P, P = X % 4294967296 ^ i * Y := ⟨_, rfl⟩
          rw [← hP] at hL
          have HD := hide hd
          have HP := hide hP
          clear hd hP
          go_wp2
          go_loopw [8, 35] (fun cv kv wr => ∃ k c : Nat, kv = .int .i64 k ∧ cv = .int .u64 c ∧ k ≤ lY ∧ c < 4294967296 ∧ Hid ((P + d * 4294967296 ^ i * (Y % 4294967296 ^ k)) / 4294967296 ^ (i + k) = P / 4294967296 ^ (i + k) + c) ∧ Limb wr B (mixL M (i + k) P (P + d * 4294967296 ^ i * (Y % 4294967296 ^ k))) ∧ Below B w wr) (fun _ kv _ => lY - (intOf kv).toNat)
          case atStart =>
            refine ⟨0, 0, rfl, rfl, Nat.zero_le _, by decide, hide ?_, ?_, hB⟩
            · rw [Nat.pow_zero, Nat.mod_one, Nat.mul_zero]; rfl
            · rw [Nat.pow_zero, Nat.mod_one, Nat.mul_zero, Nat.add_zero, Nat.add_zero, mixL_self]; exact hL
          case round =>
            obtain ⟨k, c, rfl, rfl, hk, hc, hK, hL2, hB2⟩ := hrel
            clear hL hB hx
            by_cases hkl : k < lY
            · have hy := (hB2.cell (p := ⟨gY, k, none⟩) hgY).trans (HCY.out k hkl)
              obtain ⟨d2, hd2⟩ : ∃ d2, d2 = Y / 4294967296 ^ k % 4294967296 := ⟨_, rfl⟩
              rw [← hd2] at hy
              have hdl2 : d2 < 4294967296 := by rw [hd2]; exact Nat.mod_lt _ (by decide)
              obtain ⟨a, ha⟩ : ∃ a, a = i + k := ⟨_, rfl⟩
              rw [← ha] at hK hL2
              have hcl := hL2.cell (k := a) (by rw [mixL_len]; have := HM.out; omega)
              have hfz := hL2.free_ a
              rw [mixL_get, if_neg (Nat.lt_irrefl _)] at hcl
              obtain ⟨o, ho⟩ : ∃ o, o = P / 4294967296 ^ a % 4294967296 := ⟨_, rfl⟩
              rw [← ho] at hcl
              have hol : o < 4294967296 := by rw [ho]; exact Nat.mod_lt _ (by decide)
              obtain ⟨e, he⟩ : ∃ e, e = d * d2 := ⟨_, rfl⟩
              have hei : (d : Int) * (d2 : Int) = (e : Int) := by rw [he, Int.natCast_mul]
              have hel : e ≤ 18446744065119617025 := by rw [he]; exact Nat.mul_le_mul (show d ≤ 4294967295 by omega) (show d2 ≤ 4294967295 by omega)
              have hstep := mul_carry 4294967296 P (P + d * 4294967296 ^ i * (Y % 4294967296 ^ k)) a e o c (by decide) ho hK.out
              have hnext : P + d * 4294967296 ^ i * (Y % 4294967296 ^ (k + 1)) = P + d * 4294967296 ^ i * (Y % 4294967296 ^ k) + e * 4294967296 ^ a := by
                rw [he, hd2, HP.out, HD.out, ha]; exact mul_step X Y i k
              have hset := mixL_set (m := M) (a := a) (P := P) (Q := P + d * 4294967296 ^ i * (Y % 4294967296 ^ k)) (d := e) rfl
              rw [← hnext] at hset hstep
              rw [hstep.1] at hset
              have HSET := hide hset
              have HSTEP := hide hstep.2
              have hai : (i : Int) + (k : Int) = (a : Int) := by omega
              have haM : a < M := by have := HM.out; omega
              have HA := hide ha
              clear hset hstep hnext he ho hd2 hK ha
              go_wp2
              rw [show ((e : Int) + o + c) % 4294967296 = (((e + o + c) % 4294967296 : Nat) : Int) by omega, show ((e : Int) + o + c) / 4294967296 = (((e + o + c) / 4294967296 : Nat) : Int) by omega]
              have hL3 := hL2.set_ a ((e + o + c) % 4294967296)
              rw [HSET.out] at hL3
              have hB3 := hB2.setCell (p := ⟨B, a, none⟩) (Nat.le_refl _) (.int .u32 (((e + o + c) % 4294967296 : Nat) : Int))
              go_roundw
              case rel => exact ⟨k + 1, (e + o + c) / 4294967296, by go_num, rfl, hkl, by omega, hide (by rw [show i + (k + 1) = a + 1 by rw [HA.out]; rfl]; exact HSTEP.out), by rw [show i + (k + 1) = a + 1 by rw [HA.out]; rfl]; exact hL3, hB3⟩
              case measure => simp [intOf]; omega
            · obtain rfl : k = lY := by omega
              have hYm : Y % 4294967296 ^ k = Y := Nat.mod_eq_of_lt HTY.out.1
              obtain ⟨a, ha⟩ : ∃ a, a = i + k := ⟨_, rfl⟩
              rw [hYm, ← ha] at hL2 hK
              have hPl : P < 4294967296 ^ a := by rw [HP.out, ha]; exact mul_low HTY.out.1 i
              have hQ : (P + d * 4294967296 ^ i * Y) / 4294967296 ^ a = c := by
                have := hK.out
                rw [Nat.div_eq_of_lt hPl] at this
                omega
              obtain ⟨v0, hcl⟩ := hL2.some_ (k := a) (by rw [mixL_len]; have := HM.out; omega)
              have hfz := hL2.free_ a
              have hL3 := hL2.set_ a c
              rw [mixL_top hPl hc hQ, show P + d * 4294967296 ^ i * Y = X % 4294967296 ^ (i + 1) * Y by rw [HP.out, HD.out]; exact mul_row X Y i] at hL3
              have hB3 := hB2.setCell (p := ⟨B, a, none⟩) (Nat.le_refl _) (.int .u32 (c : Int))
              have hai : (i : Int) + (k : Int) = (a : Int) := by omega
              have haM : a < M := by have := HM.out; omega
              have hcm : (c : Int) % 4294967296 = (c : Int) := by omega
              have HK := hide hK
              clear ha hPl hQ hYm hL2 hK
              go_wp2
              go_roundw
              case rel => exact ⟨i + 1, by go_num, hlt, hL3, hB3⟩
              case measure => simp [intOf]; omega
        · obtain rfl : i = lX := by omega
          have hXm : X % 4294967296 ^ i = X := Nat.mod_eq_of_lt HTX.out.1
          rw [hXm] at hL
          have hltM : X * Y < 4294967296 ^ M := by
            rw [HM.out, Nat.pow_add]
            exact Nat.mul_lt_mul'' HTX.out.1 HTY.out.1
          have HT := hide (itrim_any (some ⟨B, 0, none⟩) M M (X * Y) wr hL.nat hltM hM7 (Nat.le_refl _))
          have HLL := hide hL
          clear hXm hltM hL
          go_wp2_with (refine HT.out.mono ?_; rintro e w' ⟨l, rfl, ht, hl, rfl⟩)
          go_ret
          refine ⟨_, rfl, ⟨_, l, M, rfl, ht, hl, HLL.out.nat.less hl⟩, ?_⟩
          rw [hBB]
          exact hB
end Go.Proofs.Ytijeogengbphdaa
