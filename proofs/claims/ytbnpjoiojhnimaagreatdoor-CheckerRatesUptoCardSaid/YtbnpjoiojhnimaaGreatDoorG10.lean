import Derived.Test.YtbnpjoiojhnimaaGreatDoorG9
import Derived.Laws.BitsAllLaws
import Derived.Laws.BitsLemmas
set_option linter.unusedSimpArgs false
set_option linter.unusedVariables false
/- integer.trim, digits, number: their contracts. -/
namespace Go.Proofs.YtbnpjoiojhnimaaGreatDoor
open Go.RowKit
set_option maxRecDepth 100000 in
set_option maxHeartbeats 1000000 in
theorem itrim_any (A : Option Addr) (m c N : Nat) (w : World) (hA : NatC w A m N) (hN : Hid (N < 4294967296 ^ m)) (hm : m ≤ 70000) (hmc : m ≤ c) :
  Calls Tryz.prog 117 #[.slice A m c] w fun e w' => ∃ l, e = .returned (.slice A l c) ∧ Trm N l ∧ l ≤ m ∧ w = w' := by
 have HA := hide hA
 clear hA
 go_enter Tryz.func117, Tryz.ntmps117
 go_wp2
 go_loopw [0] (fun xv wr => ∃ k : Nat, xv = .slice A k c ∧ k ≤ m ∧ Hid (N < 4294967296 ^ k) ∧ wr = w) (fun xv _ => match xv with | .slice _ n _ => n | _ => 0)
 case atStart => exact ⟨m, rfl, Nat.le_refl _, hN, rfl⟩
 case round =>
  obtain ⟨k, rfl, hk, hK, rfl⟩ := hrel
  cases k with
  | zero =>
   go_wp2
   go_ret
   exact ⟨0, rfl, ⟨hK.out, fun h => absurd h (by omega)⟩, hk, rfl⟩
  | succ k =>
   obtain ⟨g, rfl, hg, hc⟩ := HA.out (by omega)
   have hck := hc k (by omega)
   have hkc : k ≤ c := by omega
   clear hc
   by_cases h0 : N / 4294967296 ^ k % 4294967296 = 0
   ·rw [h0] at hck
    have HK := hide (trm_down hK.out h0)
    clear h0 hK
    go_wp2
    go_roundw
    case rel => exact ⟨k, rfl, by omega, HK, by first | exact trivial | rfl⟩
    case measure => simp
   ·obtain ⟨d, hd⟩ : ∃ d, d = N / 4294967296 ^ k % 4294967296 := ⟨_, rfl⟩
    rw [← hd] at hck
    have HT := hide (trm_here hK.out h0)
    rw [← hd] at h0
    have hd0 : ((d : Int) == 0) = false := by rw [beq_eq_false_iff_ne]; omega
    clear hK hd h0
    go_wp2
    go_ret
    exact ⟨k + 1, by go_num, HT.out, hk, rfl⟩
theorem mag_byte {s : ByteArray} {N i : Nat} (hs : s = ⟨(beN N).toArray⟩) (hi : i < s.size) (hk : s.size - 1 - i < s.size) : s[s.size - 1 - i].toNat = N / 256 ^ i % 256 := by
 have hsz : s.size = blen N := by subst hs; show (beN N).toArray.size = _; rw [List.size_toArray, beN_len]
 have e : ∀ (j : Nat) (hj : j < s.size), s[j] = (beN N)[j]'(by rw [beN_len]; omega) := by subst hs; intro j hj; rfl
 rw [e]
 have h := beL_back (m := blen N) (S := N) (i := i) (by omega) (by rw [beL_len]; omega)
 simp only [hsz]
 exact h
theorem shl_byte {c r : Nat} (hc : c < 256) (hr : r < 4) : (c : Int) % 4294967296 * 2 ^ (8 * r) % 4294967296 = ((c * 2 ^ (8 * r) : Nat) : Int) ∧ c * 2 ^ (8 * r) < 4294967296 := by
 have : r = 0 ∨ r = 1 ∨ r = 2 ∨ r = 3 := by omega
 rcases this with h | h | h | h <;> subst h <;> simp <;> omega
set_option maxRecDepth 100000 in
set_option maxHeartbeats 1000000 in
theorem idigits_any (b : Bool) (s : ByteArray) (N : Nat) (hs : s = ⟨(beN N).toArray⟩) (hb : blen N ≤ 40000) (w : World) :
  Calls Tryz.prog 72 #[.agg #[.bool b, .string s]] w fun e w' => ∃ v, e = .returned v ∧ NatV w' v N ∧ Below w.heap.size w w' := by
 have hsz : s.size = blen N := by subst hs; show (beN N).toArray.size = _; rw [List.size_toArray, beN_len]
 have HS := hide hs
 clear hs
 have hz : s.size ≤ 40000 := by omega
 obtain ⟨M, hM⟩ : ∃ M, M = (s.size + 3) / 4 := ⟨_, rfl⟩
 have hMq : ((s.size : Int) + 3).tdiv 4 = (M : Int) := by rw [Int.tdiv_eq_ediv_of_nonneg (by omega)]; omega
 have hM7 : M ≤ 70000 := by omega
 have HM := hide hM
 have HZ := hide hsz
 clear hM hsz
 have hmk := fun W => run_make_nat M hM7 W
 go_enter Tryz.func72, Tryz.ntmps72
 go_wp2
 go_loopw [15] (fun iv wr => ∃ i : Nat, iv = .int .i64 i ∧ i ≤ s.size ∧ Limb wr (w.heap.size + 1) (limbs M (N % 256 ^ i)) ∧ wr.cell? ⟨w.heap.size, 1, none⟩ = some (.string s) ∧ Below w.heap.size w wr) (fun iv _ => s.size - (intOf iv).toNat)
 case atStart =>
  refine ⟨0, rfl, Nat.zero_le _, ?_, by simp, ?_⟩
  ·rw [Nat.pow_zero, Nat.mod_one]
   have := Limb.new_ (w.alloc (Obj.cells #[Value.bool b, Value.string s] 55)) (limbs M 0) rfl
   rw [show (w.alloc (Obj.cells #[Value.bool b, Value.string s] 55)).heap.size = w.heap.size + 1 by simp] at this
   exact this
  ·exact ((Below.refl _ w).alloc (Nat.le_refl _) _).alloc (by simp) _
 case round =>
  obtain ⟨i, rfl, hi, hL, hc1, hB⟩ := hrel
  by_cases hlt : i < s.size
  ·obtain ⟨q, hq⟩ : ∃ q, q = i / 4 := ⟨_, rfl⟩
   obtain ⟨r, hr⟩ : ∃ r, r = i % 4 := ⟨_, rfl⟩
   have hqi : (i : Int).tdiv 4 = (q : Int) := by rw [Int.tdiv_eq_ediv_of_nonneg (by omega)]; omega
   have hri : (i : Int).tmod 4 = (r : Int) := by rw [Int.tmod_eq_emod_of_nonneg (by omega)]; omega
   have hr4 : r < 4 := by omega
   have hqM : q < M := by have := HM.out; omega
   have hcl := hL.cell (k := q) (by rw [limbs_len]; exact hqM)
   rw [limbs_get] at hcl
   obtain ⟨d, hd⟩ : ∃ d, d = N % 256 ^ i / 4294967296 ^ q % 4294967296 := ⟨_, rfl⟩
   rw [← hd] at hcl
   have hdl : d < 4294967296 := by rw [hd]; exact Nat.mod_lt _ (by decide)
   have HD := hide hd
   have HQ := hide hq
   have HR := hide hr
   have hfz := hL.free_ q
   clear hd hq hr
   have hkI : (s.size : Int) - 1 - i = ((s.size - 1 - i : Nat) : Int) := by omega
   have hkl : s.size - 1 - i < s.size := by omega
   go_wp2
   go_region
   obtain ⟨cb, hcb⟩ : ∃ cb, cb = s[s.size - 1 - i].toNat := ⟨_, rfl⟩
   have hbyte := mag_byte HS.out hlt hkl
   rw [← hcb] at hbyte ⊢
   clear hcb
   have hsh := shl_byte (c := cb) (r := r) (by rw [hbyte]; exact Nat.mod_lt _ (by decide)) hr4
   rw [hsh.1, u32_or_nat _ _ hdl hsh.2]
   have hL1 := hL.set_ q (d ||| cb * 2 ^ (8 * r))
   have hE : (limbs M (N % 256 ^ i)).set q (d ||| cb * 2 ^ (8 * r)) = limbs M (N % 256 ^ (i + 1)) := by
    rw [HD.out, hbyte, HQ.out, HR.out]
    exact limbs_or M N i
   rw [hE] at hL1
   have hB1 := hB.setCell (p := ⟨w.heap.size + 1, q, none⟩) (Nat.le_succ _) (.int .u32 ((d ||| cb * 2 ^ (8 * r) : Nat) : Int))
   have hc2 : (wr.setCell ⟨w.heap.size + 1, q, none⟩ (.int .u32 ((d ||| cb * 2 ^ (8 * r) : Nat) : Int))).cell? ⟨w.heap.size, 1, none⟩ = some (.string s) :=
    (((Below.refl (w.heap.size + 1) wr).setCell (p := ⟨w.heap.size + 1, q, none⟩) (Nat.le_refl _) _).cell (p := ⟨w.heap.size, 1, none⟩) (Nat.lt_succ_self _)).trans hc1
   clear hbyte hsh hE
   go_wp2
   go_roundw
   case rel => exact ⟨i + 1, by go_num, hlt, hL1, hc2, hB1.drew⟩
   case measure => simp [intOf]; omega
  ·obtain rfl : i = s.size := by omega
   have hNL : N % 256 ^ s.size = N := by rw [HZ.out]; exact Nat.mod_eq_of_lt (blen_lt N)
   rw [hNL] at hL
   have hlt2 : N < 4294967296 ^ M := by
    refine Nat.lt_of_lt_of_le (blen_lt N) ?_
    rw [← HZ.out, show (4294967296 : Nat) = 256 ^ 4 from rfl, ← Nat.pow_mul]
    exact Nat.pow_le_pow_right (by decide) (by have := HM.out; omega)
   have HT := hide (itrim_any (some ⟨w.heap.size + 1, 0, none⟩) M M N wr hL.nat hlt2 hM7 (Nat.le_refl _))
   clear hlt2
   go_wp2_with (refine HT.out.mono ?_; rintro e w' ⟨l, rfl, ht, hl, rfl⟩)
   go_ret
   exact ⟨_, rfl, ⟨_, l, M, rfl, ht, hl, hL.nat.less hl⟩, hB⟩
theorem num_byte (N i k : Nat) (hk : k < 4) : ((N / 4294967296 ^ i % 4294967296 : Nat) : Int) / 2 ^ (8 * k) % 256 = ((UInt8.ofNat (N / 256 ^ (4 * i + k) % 256)).toNat : Int) := by
 have e : N / 256 ^ (4 * i + k) = N / 4294967296 ^ i / 2 ^ (8 * k) := by
  rw [Nat.pow_add, ← Nat.div_div_eq_div_mul, show (256 : Nat) ^ (4 * i) = 4294967296 ^ i by rw [Nat.pow_mul], show (256 : Nat) ^ k = 2 ^ (8 * k) by rw [Nat.pow_mul]]
 rw [UInt8.toNat_ofNat', e]
 generalize N / 4294967296 ^ i = x
 have : k = 0 ∨ k = 1 ∨ k = 2 ∨ k = 3 := by omega
 rcases this with h | h | h | h <;> subst h <;> simp <;> omega
theorem num_step (N p c : Nat) (hc : c = N / 256 ^ p % 256) : beN (N / 256 ^ p) = if c = 0 ∧ beN (N / 256 ^ (p + 1)) = [] then [] else beN (N / 256 ^ (p + 1)) ++ [UInt8.ofNat c] := by
 have e : N / 256 ^ p = 256 * (N / 256 ^ (p + 1)) + c := by rw [div_succ, hc]; omega
 split
 ·rename_i h
  rw [e, h.1, beN_nil.1 h.2]; exact beN_zero
 ·rename_i h
  rw [e]
  refine beN_snoc (by rw [hc]; exact Nat.mod_lt _ (by decide)) ?_
  apply Nat.pos_of_ne_zero
  intro h0
  exact h ⟨by omega, beN_nil.2 (by omega)⟩
set_option maxRecDepth 100000 in
set_option maxHeartbeats 1000000 in
theorem inumber_any (A : Option Addr) (m c N : Nat) (w : World) (hA : NatC w A m N) (hN : Hid (N < 4294967296 ^ m)) (hm : m ≤ 10000) (hmc : m ≤ c) :
  Calls Tryz.prog 66 #[.bool false, .slice A m c] w fun e w' => e = .returned (intV N) ∧ Below w.heap.size w w' := by
 have H1 := hide (fun W (hB : Below w.heap.size w W) => itrim_any A m c N W (hA.below hB) hN (by omega) hmc)
 have HA := hide hA
 clear hA hN
 go_enter Tryz.func66, Tryz.ntmps66
 have hB0 : Below w.heap.size w (w.alloc (Obj.cells #[Value.bool false, Value.string { data := #[] }] 55)) := (Below.refl _ w).alloc (Nat.le_refl _) _
 have hk0 : ResI (w.alloc (Obj.cells #[Value.bool false, Value.string { data := #[] }] 55)) w.heap.size false ⟨#[]⟩ := ResI.new_ w _ _
 have hs0 : (w.alloc (Obj.cells #[Value.bool false, Value.string { data := #[] }] 55)).heap.size = w.heap.size + 1 := by simp
 go_wp2_with fail
 generalize w.alloc (Obj.cells #[Value.bool false, Value.string { data := #[] }] 55) = W0 at hB0 hk0 hs0 ⊢
 refine (H1.out _ hB0).mono ?_
 rintro e w' ⟨l, rfl, ht, hl, rfl⟩
 have hA0 := HA.out.below hB0
 obtain ⟨B, hBB⟩ : ∃ B, w.heap.size = B := ⟨_, rfl⟩
 rw [hBB] at hB0 hk0 hs0 ⊢
 by_cases hl0 : l = 0
 ·subst hl0
  obtain rfl := ht.zero
  have f0 := hk0.c0
  have f1 := hk0.c1
  have z0 := hk0.z0
  have z1 := hk0.z1
  go_wp2
  refine bodyPost_ret (ret_apiInt rfl _ _ B _ rfl (hk0.set_ _ _) rfl) rfl ?_
  refine ⟨by unfold intV; rw [beN_zero], ?_⟩
  rw [hBB]
  exact Below.pair hB0 (Nat.le_refl _) _ _
 ·have HT := hide ht
  have HA2 := hide (hA0.less hl)
  have hlc : l ≤ c := by omega
  have hl1 : l ≤ 10000 := by omega
  have hlz : ((l : Int) == 0) = false := by rw [beq_eq_false_iff_ne]; omega
  obtain ⟨w1, hmk, hrow, hB1⟩ := run_make_cap (4 * l) (by omega) W0
  rw [show ((4 * l : Nat) : Int) = 4 * (l : Int) by omega] at hmk
  rw [hs0] at hmk hrow hB1
  have HB := hide hB1
  have HB0 := hide hB0
  have HK0 := hide hk0
  have HL0 := hide (Nat.pos_of_ne_zero hl0)
  have HRow := hide hrow
  have HS0 := hide hs0
  clear ht hl0 H1 HA hl hm hmc hrow hs0 hk0 hB0 hB1 hA0
  go_wp2
  go_loopw [5, 6] (fun bv iv wr => ∃ i : Nat, iv = .int .i64 ((i : Int) - 1) ∧ i ≤ l ∧ BStr wr (B + 1) bv (beN (N / 4294967296 ^ i)) ∧ Below (B + 1) W0 wr) (fun _ iv _ => (intOf iv + 1).toNat)
  case atStart =>
   refine ⟨l, rfl, Nat.le_refl _, ?_, HB.out⟩
   rw [Nat.div_eq_of_lt HT.out.1, beN_zero]
   exact HRow.out
  case round =>
   obtain ⟨i, rfl, hi, hr, hBr⟩ := hrel
   cases i with
   | zero =>
    have hN0 : 0 < N := HT.out.pos HL0.out
    rw [Nat.pow_zero, Nat.div_one] at hr
    have hpos : 0 < (beN N).length := by
     apply Nat.pos_of_ne_zero
     intro h0
     have := beN_nil.1 (List.eq_nil_of_length_eq_zero h0)
     omega
    have hback := hr.back hpos
    have hk0 := HK0.out.below hBr (Nat.lt_succ_self _)
    have f0 := hk0.c0
    have f1 := hk0.c1
    have z0 := hk0.z0
    have z1 := hk0.z1
    have HR := hide hr
    clear hr hpos hN0
    go_wp2
    refine bodyPost_ret (ret_apiInt rfl _ _ B _ rfl (hk0.set_ _ _) rfl) rfl ?_
    refine ⟨rfl, ?_⟩
    rw [hBB]
    exact Below.pair (HB0.out.trans (hBr.mono (Nat.le_succ _))) (Nat.le_refl _) _ _
   | succ i =>
    rw [show (((i + 1 : Nat) : Int) - 1) = (i : Int) by omega]
    go_wp2
    go_loopw [5, 7] (fun bv kv wr' => ∃ k : Nat, kv = .int .i64 ((k : Int) - 1) ∧ k ≤ 4 ∧ BStr wr' (B + 1) bv (beN (N / 256 ^ (4 * i + k))) ∧ Below (B + 1) W0 wr') (fun _ kv _ => (intOf kv + 1).toNat)
    case atStart =>
     refine ⟨4, rfl, Nat.le_refl _, ?_, hBr⟩
     rw [show (256 : Nat) ^ (4 * i + 4) = 4294967296 ^ (i + 1) by rw [show (4294967296 : Nat) = 256 ^ 4 from rfl, ← Nat.pow_mul]; rfl]
     exact hr
    case round =>
     obtain ⟨k, rfl, hk, hr2, hBr2⟩ := hrel
     cases k with
     | zero =>
      have hr3 := hide hr2
      clear hr2
      go_wp2
      go_roundw
      case rel =>
       refine ⟨i, by go_num, by omega, ?_, hBr2⟩
       have := hr3.out
       rw [show (256 : Nat) ^ (4 * i + 0) = 4294967296 ^ i by rw [Nat.add_zero, Nat.pow_mul]] at this
       exact this
      case measure => simp [intOf]
     | succ k =>
      rw [show (((k + 1 : Nat) : Int) - 1) = (k : Int) by omega]
      obtain ⟨g, rfl, hg, hcell⟩ := HA2.out HL0.out
      have hck := (hBr2.cell (p := ⟨g, i, none⟩) (by rw [← HS0.out]; exact hg)).trans (hcell i (by omega))
      have hd := num_byte N i k (by omega)
      obtain ⟨d, hdd⟩ : ∃ d, d = N / 4294967296 ^ i % 4294967296 := ⟨_, rfl⟩
      rw [← hdd] at hck hd
      have hstep := num_step N (4 * i + k) _ rfl
      have hclt : N / 256 ^ (4 * i + k) % 256 < 256 := Nat.mod_lt _ (by decide)
      obtain ⟨cu, hcu⟩ : ∃ cu, cu = UInt8.ofNat (N / 256 ^ (4 * i + k) % 256) := ⟨_, rfl⟩
      rw [← hcu] at hd hstep
      have hc0 : N / 256 ^ (4 * i + k) % 256 = cu.toNat := by rw [hcu, UInt8.toNat_ofNat']; omega
      rw [hc0] at hstep
      have hr3 : BStr wr (B + 1) _ (beN (N / 256 ^ (4 * i + k + 1))) := hr2
      have hlen : (beN (N / 256 ^ (4 * i + k + 1))).length ≤ 40000 := by
       rw [beN_len]
       have h4 : blen (N / 256 ^ (4 * i + k + 1)) ≤ 4 * l := by
        refine blen_le (Nat.lt_of_le_of_lt (Nat.div_le_self _ _) (Nat.lt_of_lt_of_le HT.out.1 ?_))
        rw [show (4294967296 : Nat) = 256 ^ 4 from rfl, ← Nat.pow_mul]
        exact Nat.le_refl _
       omega
      obtain ⟨L, hL⟩ : ∃ L, L = beN (N / 256 ^ (4 * i + k + 1)) := ⟨_, rfl⟩
      rw [← hL] at hr3 hlen hstep
      obtain ⟨ad, cap, rfl⟩ := hr3.shape
      have HStep := hide hstep
      have HC := hide hcell
      have hBs := hBr2.size
      rw [HS0.out] at hBs
      clear hdd hcu hc0 hr2 hstep hL hcell hclt hr
      by_cases hz : cu.toNat = 0
      ·obtain rfl : cu = 0 := UInt8.toNat_inj.1 (by simpa using hz)
       replace hd : (d : Int) / 2 ^ (8 * k) % 256 = 0 := hd
       by_cases hL0 : L = []
       ·subst hL0
        have hlz0 : ((List.length ([] : List UInt8) : Nat) : Int) = 0 := rfl
        have HR3 := hide hr3
        clear hr3
        go_wp2
        go_roundw
        case rel =>
         refine ⟨k, by go_num, by omega, ?_, hBr2⟩
         rw [HStep.out, if_pos ⟨hz, rfl⟩]
         exact HR3.out
        case measure => simp [intOf]
       ·have hLp : (0 : Int) < (L.length : Int) := by
         have : L.length ≠ 0 := fun h => hL0 (List.eq_nil_of_length_eq_zero h)
         omega
        have HStep2 := hide (show beN (N / 256 ^ (4 * i + k)) = L ++ [0] by
         have := HStep.out
         rw [if_neg (fun h => hL0 h.2)] at this
         exact this)
        clear HStep hz hL0
        go_wp2_with (at_builtin; refine wpList_app_bs rfl (.tmp 45) (.tmp 47) rfl (B + 1) _ _ rfl (hr3.alloc _) wr.heap.size 1 [0] rfl rfl (heap_alloc_new wr _) (by omega) (by simp; omega) ?_; intro v1 w1 hv1 hg1)
        have hB3 : Below (B + 1) W0 w1 := (hBr2.alloc hBs _).grown hg1 (by simp; omega) (fun _ hk => (World.ownsRow.lt hr3 _ hk).1)
        clear hr3 hg1 hBr2
        go_roundw
        case rel =>
         refine ⟨k, by go_num, by omega, ?_, hB3⟩
         rw [HStep2.out]
         exact hv1
        case measure => simp [intOf]
      ·have hzi : ((cu.toNat : Int) != 0) = true := by rw [bne_iff_ne]; omega
       have HStep2 := hide (show beN (N / 256 ^ (4 * i + k)) = L ++ [cu] by
        have := HStep.out
        rw [if_neg (fun h => hz h.1)] at this
        exact this)
       clear HStep hz
       go_wp2_with (at_builtin; refine wpList_app_bs rfl (.tmp 45) (.tmp 47) rfl (B + 1) _ _ rfl (hr3.alloc _) wr.heap.size 1 [cu] rfl rfl (heap_alloc_new wr _) (by omega) (by simp; omega) ?_; intro v1 w1 hv1 hg1)
       have hB3 : Below (B + 1) W0 w1 := (hBr2.alloc hBs _).grown hg1 (by simp; omega) (fun _ hk => (World.ownsRow.lt hr3 _ hk).1)
       clear hr3 hg1 hBr2
       go_roundw
       case rel =>
        refine ⟨k, by go_num, by omega, ?_, hB3⟩
        rw [HStep2.out]
        exact hv1
       case measure => simp [intOf]
end Go.Proofs.YtbnpjoiojhnimaaGreatDoor
