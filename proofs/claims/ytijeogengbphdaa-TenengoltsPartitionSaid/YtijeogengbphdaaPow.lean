/- math/bits.Len32, Len64, Len (small numbers), integer.length, power, Power of 2: their contracts. -/
import Derived.Test.YtijeogengbphdaaMul
import Derived.Test.YtijeogengbphdaaTSiz
import Derived.Laws.MathBits
set_option linter.unusedVariables false
namespace Go.Proofs.Ytijeogengbphdaa
open Go.RowKit
set_option maxRecDepth 100000 in
set_option maxHeartbeats 4000000 in
theorem bLen64_any (x : Nat) (hx : x < 256) (w : World) :
    Calls Try.prog 101 #[.int .u64 x] w fun e w' => e = .returned (.int .i64 (bitLen x : Nat)) ∧ w = w' := by
  have d1 : decide ((4294967296 : Int) ≤ (x : Int)) = false := decide_eq_false (by omega)
  have d2 : decide ((65536 : Int) ≤ (x : Int)) = false := decide_eq_false (by omega)
  have d3 : decide ((256 : Int) ≤ (x : Int)) = false := decide_eq_false (by omega)
  go_enter Try.func101, Try.ntmps101
  have ht := len8tab_get x hx
  have HT := hide ht
  have H8 := hide (bitLen_le8 x hx)
  clear ht
  go_wp2
  go_ret
  refine ⟨?_, rfl⟩
  have hw : ∀ n : Nat, n ≤ 8 → wrap64 (wrap64 (n : Int)) = (n : Int) := fun n hn => by
    have h1 : wrap64 (n : Int) = (n : Int) := by unfold wrap64; omega
    rw [h1, h1]
  have h9 := hw _ H8.out
  refine (congrArg (fun z : Nat => Ending.returned (Value.int .i64 (wrap64 (wrap64 (z : Int))))) HT.out).trans ?_
  exact congrArg (fun z => Ending.returned (Value.int .i64 z)) h9
set_option maxRecDepth 100000 in
set_option maxHeartbeats 4000000 in
theorem bLen32_any (x : Nat) (hx : x < 256) (w : World) :
    Calls Try.prog 83 #[.int .u32 x] w fun e w' => e = .returned (.int .i64 (bitLen x : Nat)) ∧ w = w' := by
  have d2 : decide ((65536 : Int) ≤ (x : Int)) = false := decide_eq_false (by omega)
  have d3 : decide ((256 : Int) ≤ (x : Int)) = false := decide_eq_false (by omega)
  go_enter Try.func83, Try.ntmps83
  have ht := len8tab_get x hx
  have HT := hide ht
  have H8 := hide (bitLen_le8 x hx)
  clear ht
  go_wp2
  go_ret
  refine ⟨?_, rfl⟩
  have hw : ∀ n : Nat, n ≤ 8 → wrap64 (wrap64 (n : Int)) = (n : Int) := fun n hn => by
    have h1 : wrap64 (n : Int) = (n : Int) := by unfold wrap64; omega
    rw [h1, h1]
  have h9 := hw _ H8.out
  refine (congrArg (fun z : Nat => Ending.returned (Value.int .i64 (wrap64 (wrap64 (z : Int))))) HT.out).trans ?_
  exact congrArg (fun z => Ending.returned (Value.int .i64 z)) h9
set_option maxRecDepth 100000 in
theorem bLen_any (x : Nat) (hx : x < 256) (w : World) :
    Calls Try.prog 84 #[.int .u64 x] w fun e w' => e = .returned (.int .i64 (bitLen x : Nat)) ∧ w = w' := by
  have HL := hide (fun W => bLen64_any x hx W)
  go_enter Try.func84, Try.ntmps84
  go_wp2_with (refine (HL.out _).mono ?_; rintro e w' ⟨rfl, rfl⟩)
  go_ret
  exact ⟨rfl, rfl⟩
theorem trm_two : Trm 2 1 := ⟨by decide, fun _ => by decide⟩
set_option maxRecDepth 100000 in
theorem ilength_two (v : Value) (w : World) (h : NatV w v 2) :
    Calls Try.prog 61 #[v] w fun e w' => e = .returned (.int .i64 2) ∧ w = w' := by
  obtain ⟨A, l, c, rfl, ht, hlc, hc⟩ := h
  obtain rfl := ht.uniq trm_two
  obtain ⟨g, rfl, hg, hcell⟩ := hc (by decide)
  have h0 := hcell 0 (by decide)
  have h2 : bitLen 2 = 2 := by decide +kernel
  have HL : Hid (∀ W : World, Calls Try.prog 83 #[.int .u32 (2 : Int)] W fun e w' => e = .returned (.int .i64 2) ∧ W = w') := hide (fun W => by have := bLen32_any 2 (by decide) W; rw [h2] at this; exact this)
  clear hcell hc ht
  go_enter Try.func61, Try.ntmps61
  go_wp2_with (refine (HL.out _).mono ?_; rintro e w' ⟨rfl, rfl⟩)
  go_ret
  exact ⟨rfl, rfl⟩
set_option maxRecDepth 100000 in
set_option maxHeartbeats 4000000 in
theorem ipower_two (v : Value) (n : Nat) (hn : n ≤ 40) (w : World) (h : NatV w v 2) :
    Calls Try.prog 62 #[v, .int .i64 n] w fun e w' => ∃ v', e = .returned v' ∧ NatV w' v' (2 ^ n) ∧ Below w.heap.size w w' := by
  have HL := hide (fun W => bLen_any n (by omega) W)
  have hlt := (bitLen_spec n).1
  have hb8 := bitLen_le8 n (by omega)
  have HLT := hide hlt
  have HV := hide h
  clear hlt h
  obtain ⟨b, hb⟩ : ∃ b, b = bitLen n := ⟨_, rfl⟩
  rw [← hb] at HL HLT hb8
  clear hb
  go_enter Try.func62, Try.ntmps62
  obtain ⟨B, hBB⟩ : ∃ B, w.heap.size = B := ⟨_, rfl⟩
  have hW1 : Limb (w.alloc (Obj.cells #[Value.int .u32 1] 81)) B [1] := by rw [← hBB]; exact Limb.new_ w [1] rfl
  have hW2 : Below w.heap.size w (w.alloc (Obj.cells #[Value.int .u32 1] 81)) := (Below.refl _ w).alloc (Nat.le_refl _) _
  have hb0 : (0 : Int) ≤ (b : Int) := by omega
  go_wp2_with (refine (HL.out _).mono ?_; rintro e w' ⟨rfl, rfl⟩)
  generalize w.alloc (Obj.cells #[Value.int .u32 1] 81) = W1 at hW1 hW2 ⊢
  go_loopw [5, 6] (fun ov iv wr => ∃ j : Nat, iv = .int .i64 ((j : Int) - 1) ∧ j ≤ b ∧ NatV wr ov (2 ^ (n / 2 ^ j)) ∧ Below w.heap.size w wr) (fun _ iv _ => (intOf iv + 1).toNat)
  case atStart =>
    refine ⟨b, rfl, Nat.le_refl _, ?_, hW2⟩
    rw [Nat.div_eq_of_lt HLT.out, Nat.pow_zero]
    refine ⟨some ⟨B, 0, none⟩, 1, 1, rfl, ⟨by decide, fun _ => by decide⟩, Nat.le_refl _, ?_⟩
    refine Limb.nat ?_
    have hl : limbs 1 1 = [1] := by decide
    rw [hl]
    exact hW1
  case round =>
    obtain ⟨j, rfl, hj, hv, hB⟩ := hrel
    clear hW1 hW2
    cases j with
    | zero =>
      rw [Nat.pow_zero, Nat.div_one] at hv
      have HVV := hide hv
      clear hv
      go_wp2
      go_ret
      exact ⟨_, rfl, HVV.out, hB⟩
    | succ i =>
      rw [show (((i + 1 : Nat) : Int) - 1) = (i : Int) by omega]
      obtain ⟨q, hq⟩ : ∃ q, q = n / 2 ^ (i + 1) := ⟨_, rfl⟩
      obtain ⟨r, hr⟩ : ∃ r, r = n / 2 ^ i := ⟨_, rfl⟩
      have hqr : q = r / 2 := by rw [hq, hr, Nat.pow_succ, Nat.div_div_eq_div_mul]
      have hr40 : r ≤ 40 := by rw [hr]; exact Nat.le_trans (Nat.div_le_self _ _) hn
      rw [← hq] at hv
      have hs : ∀ e, e ≤ 40 → Sml (2 ^ e) := fun e he => Sml.of64 (Nat.le_trans (Nat.pow_le_pow_right (by decide) he) (by decide))
      have HM1 := hide (imul_any (2 ^ q) (2 ^ q) _ _ wr hv hv (hs q (by omega)) (hs q (by omega)))
      have hand : bits .and .i64 (r : Int) 1 = ((r % 2 : Nat) : Int) := by
        have := i64_and_nat r 1 (by omega) (by decide)
        rw [Nat.and_one_is_mod] at this
        exact this
      have hri : (n : Int) / 2 ^ i = (r : Int) := by rw [hr, Int.natCast_ediv, Int.natCast_pow]; rfl
      have hi64 : i ≤ 64 := by omega
      have HR := hide hr
      clear hq hr
      go_wp2_with fail
      refine HM1.out.mono ?_
      rintro e W2 ⟨v2, rfl, hv2, hB2⟩
      rw [← Nat.pow_add] at hv2
      have hB3 := hB.trans (hB2.mono hB.size)
      clear hv hB HM1
      by_cases hodd : r % 2 = 1
      · have ho : (((r % 2 : Nat) : Int) == 1) = true := by rw [hodd]; rfl
        have HM2 := hide (imul_any (2 ^ (q + q)) 2 v2 v W2 hv2 (HV.out.below hB3) (hs _ (by omega)) (hs 1 (by decide)))
        clear hv2
        go_wp2_with fail
        refine HM2.out.mono ?_
        rintro e W3 ⟨v3, rfl, hv3, hB4⟩
        rw [← Nat.pow_succ, show (q + q).succ = r by omega, HR.out] at hv3
        have hB5 := hB3.trans (hB4.mono hB3.size)
        clear HM2 hB2 hB3 hB4 hqr hand hri
        go_wp2
        go_roundw
        case rel => exact ⟨i, rfl, by omega, hv3, hB5⟩
        case measure => simp [intOf]
      · have ho : (((r % 2 : Nat) : Int) == 1) = false := by rw [beq_eq_false_iff_ne]; omega
        rw [show q + q = r by omega, HR.out] at hv2
        have HV2 := hide hv2
        clear hv2 hB2
        go_wp2_with fail
        go_roundw
        case rel => exact ⟨i, rfl, by omega, HV2.out, hB3⟩
        case measure => simp [intOf]
set_option maxRecDepth 100000 in
set_option maxHeartbeats 4000000 in
theorem iPower_two (n : Nat) (hn : n ≤ 40) (w : World) :
    Calls Try.prog 32 #[.agg #[.bool false, .string ⟨(beN 2).toArray⟩], .int .i64 n] w fun e w' => e = .returned (.tuple #[.agg #[.bool false, .string ⟨(beN (2 ^ n)).toArray⟩], .int .i64 0]) ∧ Below w.heap.size w w' := by
  obtain ⟨sx, hsx⟩ : ∃ sx : ByteArray, sx = ⟨(beN 2).toArray⟩ := ⟨_, rfl⟩
  have HD := hide (fun W => idigits_any false sx 2 hsx (by
    have : blen 2 ≤ 1 := blen_le (by decide)
    omega) W)
  have HP := hide (fun v W (h : NatV W v 2) => ipower_two v n hn W h)
  have HL := hide (fun v W (h : NatV W v 2) => ilength_two v W h)
  have HT := hide (fun l (hl : Trm (2 ^ n) l) => show l ≤ 10000 by
    have h3 : 2 ^ n < 4294967296 ^ 3 := Nat.lt_of_le_of_lt (Nat.pow_le_pow_right (by decide) hn) (by decide)
    have := hl.le h3
    omega)
  have hR : Calls Try.prog 32 #[.agg #[.bool false, .string sx], .int .i64 n] w fun e w' => e = .returned (.tuple #[.agg #[.bool false, .string ⟨(beN (2 ^ n)).toArray⟩], .int .i64 0]) ∧ Below w.heap.size w w' := by
    clear hsx
    obtain ⟨c0, c1, hs0, hB0⟩ := boxes2 w false false sx ⟨#[]⟩
    have d1 : decide ((n : Int) < 0) = false := decide_eq_false (by omega)
    have d2 : decide ((4096 : Int) < (n : Int)) = false := decide_eq_false (by omega)
    have d3 : decide ((65536 : Int) < (n : Int) * 2) = false := decide_eq_false (by omega)
    go_enter Try.func32, Try.ntmps32
    go_wp2_with fail
    generalize (w.alloc (.cells #[.bool false, .string sx] 39)).alloc (.cells #[.bool false, .string ⟨#[]⟩] 39) = W0 at c0 c1 hs0 hB0 ⊢
    obtain ⟨B, hBB⟩ : ∃ B, w.heap.size = B := ⟨_, rfl⟩
    rw [hBB] at c0 c1 hs0 hB0
    obtain ⟨R, hRR⟩ : ∃ R, B + 1 = R := ⟨_, rfl⟩
    rw [hRR] at c1 hs0
    have lR : R < R + 1 := Nat.lt_succ_self _
    have lB : B < R + 1 := by omega
    refine (HD.out W0).mono ?_
    rintro e W1 ⟨v1, rfl, hv1, hB1⟩
    rw [hs0] at hB1
    have hLL := hide (HL.out v1 W1 hv1)
    have HPP := hide (HP.out v1 W1 hv1)
    have f0 := (c0.below hB1 lB).c0
    have hs1 : R + 1 ≤ W1.heap.size := Nat.le_trans (Nat.le_of_eq hs0.symm) hB1.size
    clear hv1 HD HP HL
    go_wp2_with fail
    refine hLL.out.mono ?_
    rintro e W2 ⟨rfl, rfl⟩
    go_wp2_with fail
    refine HPP.out.mono ?_
    rintro e W3 ⟨v3, rfl, hv3, hB3⟩
    obtain ⟨A3, l3, c3, rfl, ht3, hlc3, ha3⟩ := hv3
    have HN := hide (inumber_agg A3 l3 c3 (2 ^ n) W3 ha3 (hide ht3.1) (HT.out l3 ht3) hlc3)
    have hB4 := hB1.trans (hB3.mono hs1)
    clear ha3 ht3 hlc3 HPP hLL
    go_wp2_with fail
    refine HN.out.mono ?_
    rintro e W4 ⟨rfl, hB5⟩
    have hB6 := hB4.trans (hB5.mono (Nat.le_trans (Nat.le_of_eq hs0.symm) hB4.size))
    have k := c1.below hB6 lR
    have r0 := k.c0
    have r1 := k.c1
    have z0 := k.z0
    have z1 := k.z1
    clear HN
    go_wp2
    refine bodyPost_ret (ret_intE rfl _ _ R _ rfl (k.set_ _ _) rfl) rfl ?_
    refine ⟨rfl, ?_⟩
    rw [hBB]
    exact Below.pair (hB0.trans (hB6.mono (by omega))) (by omega) _ _
  rw [hsx] at hR
  exact hR
end Go.Proofs.Ytijeogengbphdaa
