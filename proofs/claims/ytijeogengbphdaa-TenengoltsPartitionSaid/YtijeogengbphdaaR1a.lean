/- integer.Of; grooveref01.trim, small, mag, Of: their contracts (numbers that are not negative). -/
import Derived.Test.YtijeogengbphdaaIAdd
set_option linter.unusedVariables false
namespace Go.Proofs.Ytijeogengbphdaa
open Go.RowKit
set_option maxRecDepth 100000 in
set_option maxHeartbeats 2000000 in
theorem iOf_any (n : Nat) (hn : n < 9223372036854775808) (w : World) :
    Calls Try.prog 33 #[.int .i64 n] w fun e w' => e = .returned (intV n) ∧ Below w.heap.size w w' := by
  have h0 : decide ((n : Int) < 0) = false := decide_eq_false (by omega)
  have e1 : (n : Int) % 18446744073709551616 = n := by omega
  obtain ⟨a, ha⟩ : ∃ a, a = n % 4294967296 := ⟨_, rfl⟩
  obtain ⟨b, hb⟩ : ∃ b, b = n / 4294967296 := ⟨_, rfl⟩
  have e2 : (n : Int) % 4294967296 = (a : Int) := by omega
  have e3 : (n : Int) / 4294967296 = (b : Int) := by omega
  have hbl : (b : Int) < 4294967296 := by omega
  have HN := hide (fun W g (h : W.heap[g]? = some (.cells #[.int .u32 a, .int .u32 b] 81 (0, 0))) => inumber_agg (some ⟨g, 0, none⟩) 2 2 n W (by
    have hl : limbs 2 n = [a, b] := by
      have : n / 4294967296 % 4294967296 = n / 4294967296 := Nat.mod_eq_of_lt (by omega)
      subst ha hb; simp [limbs, List.range_succ, this]
    refine Limb.nat ?_
    unfold Limb
    rw [hl]
    exact h) (hide (by omega)) (by decide) (Nat.le_refl _))
  clear ha hb
  have hk0 : ResI (w.alloc (Obj.cells #[Value.bool false, Value.string { data := #[] }] 39)) w.heap.size false ⟨#[]⟩ := ResI.new_ w _ _
  have hs0 : (w.alloc (Obj.cells #[Value.bool false, Value.string { data := #[] }] 39)).heap.size = w.heap.size + 1 := by simp
  have hB0 : Below w.heap.size w (w.alloc (Obj.cells #[Value.bool false, Value.string { data := #[] }] 39)) := (Below.refl _ w).alloc (Nat.le_refl _) _
  go_enter Try.func33, Try.ntmps33
  go_wp2_with fail
  generalize w.alloc (Obj.cells #[Value.bool false, Value.string { data := #[] }] 39) = W0 at hk0 hs0 hB0 ⊢
  obtain ⟨B, hBB⟩ : ∃ B, w.heap.size = B := ⟨_, rfl⟩
  rw [hBB] at hk0 hs0 hB0 ⊢
  have hblk := heap_alloc_new W0 (.cells #[.int .u32 a, .int .u32 b] 81)
  have hB1 : Below (B + 1) W0 (W0.alloc (.cells #[.int .u32 a, .int .u32 b] 81)) := (Below.refl _ _).alloc (by omega) _
  rw [hs0] at hblk
  have hk1 := hk0.below hB1 (Nat.lt_succ_self _)
  refine (HN.out _ _ hblk).mono ?_
  rintro e w1 ⟨rfl, hB2⟩
  have hB3 := hB1.trans (hB2.mono (by rw [← hs0]; exact Nat.le_trans (Nat.le_refl _) (by simp)))
  have hk3 := hk0.below hB3 (Nat.lt_succ_self _)
  have f0 := hk3.c0
  have f1 := hk3.c1
  have z0 := hk3.z0
  have z1 := hk3.z1
  go_wp2
  refine bodyPost_ret (ret_apiInt rfl _ _ B _ rfl (hk3.set_ _ _) rfl) rfl ?_
  refine ⟨rfl, ?_⟩
  rw [hBB]
  exact Below.pair (hB0.trans (hB3.mono (by omega))) (Nat.le_refl _) _ _
theorem ba_of {t : ByteArray} {l : List UInt8} (h : t.data.toList = l) : t = ⟨l.toArray⟩ := by
  obtain ⟨d⟩ := t
  subst h
  simp
set_option maxRecDepth 100000 in
set_option maxHeartbeats 2000000 in
theorem r1trim_any (s : ByteArray) (m S : Nat) (hs : s.data.toList = beL m S) (hS : Hid (S < 256 ^ m)) (hm : m ≤ 70000) (w : World) :
    Calls Try.prog 99 #[.string s] w fun e w' => e = .returned (.string ⟨(beN S).toArray⟩) ∧ w = w' := by
  go_enter Try.func99, Try.ntmps99
  go_wp2
  go_loopw [0] (fun sv wr => ∃ (k : Nat) (t : ByteArray), sv = .string t ∧ t.size = k ∧ Hid (t.data.toList = beL k S) ∧ k ≤ m ∧ Hid (S < 256 ^ k) ∧ wr = w) (fun sv _ => match sv with | .string t => t.size | _ => 0)
  case atStart => exact ⟨m, s, rfl, by rw [← beL_len m S, ← hs]; simp, hide hs, Nat.le_refl _, hS, rfl⟩
  case round =>
    obtain ⟨k, t, rfl, htk, ht, hk, hK, rfl⟩ := hrel
    cases k with
    | zero =>
      go_wp2
      go_ret
      refine ⟨?_, rfl⟩
      have h0 : S = 0 := by have := hK.out; rw [Nat.pow_zero] at this; omega
      rw [ba_of ht.out, h0, beN_zero]
      rfl
    | succ k =>
      have h0 : t[0]'(by omega) = (beL (k + 1) S)[0]'(by rw [beL_len]; omega) := by
        have := ht.out
        have e : t[0]'(by omega) = t.data.toList[0]'(by simp; omega) := rfl
        rw [e]; simp only [this]
      by_cases hz : (t[0]'(by omega)) = 0
      · have hz2 := hide ((beL_head hK.out (by rw [beL_len]; omega)).1 (h0.symm.trans hz))
        clear h0
        go_wp2
        go_roundw
        case rel =>
          refine ⟨k, _, rfl, by simp [htk], hide ?_, by omega, hz2, by first | exact trivial | rfl⟩
          rw [Lib.extract_data, ht.out, beL_tail, List.take_of_length_le (by rw [beL_len]; omega)]
        case measure => simp [htk]
      · have hzb : (((t[0]'(by omega)).toNat : Int) == 0) = false := by
          rw [beq_eq_false_iff_ne]
          intro h
          exact hz (UInt8.toNat_inj.1 (by simpa using h))
        have hz2 := hide (fun h => hz (h0.trans ((beL_head hK.out (by rw [beL_len]; omega)).2 h)))
        clear h0
        go_wp2
        go_ret
        refine ⟨?_, rfl⟩
        have := ba_of ht.out
        rw [beN_eq (blen_here hK.out hz2.out)] at this
        exact congrArg (fun x => Ending.returned (Value.string x)) this
theorem i64_or_nat' (a b : Nat) (ha : a < 9223372036854775808) (hb : b < 9223372036854775808) : bits .or .i64 (a : Int) (b : Int) = ((a ||| b : Nat) : Int) := by
  have hx : a ||| b < 2 ^ 63 := Nat.or_lt_two_pow (by omega) (by omega)
  show IntKind.i64.wrap ((BitVec.ofInt 64 (a : Int) ||| BitVec.ofInt 64 (b : Int)).toNat : Int) = _
  rw [BitVec.toNat_or, ofInt_i64 a ha, ofInt_i64 b hb, IntKind.wrap_i64]
  omega
theorem small_step (N L i : Nat) (hi : i < L) : (N / 256 ^ (L - i)) * 256 ||| (N / 256 ^ (L - 1 - i) % 256) = N / 256 ^ (L - (i + 1)) := by
  have e : L - i = (L - 1 - i) + 1 := by omega
  have e2 : L - (i + 1) = L - 1 - i := by omega
  rw [e, e2, div_succ]
  generalize N / 256 ^ (L - 1 - i) = x
  have h := Nat.two_pow_add_eq_or_of_lt (show x % 256 < 2 ^ 8 from Nat.mod_lt _ (by decide)) (x / 256)
  rw [Nat.mul_comm, show (256 : Nat) = 2 ^ 8 from rfl, ← h]
  exact Nat.div_add_mod x (2 ^ 8)
theorem mag_at {s : ByteArray} {N i : Nat} (hs : s = ⟨(beN N).toArray⟩) (hk : i < s.size) : s[i].toNat = N / 256 ^ (s.size - 1 - i) % 256 := by
  have h := mag_byte (i := s.size - 1 - i) hs (by omega) (by omega)
  simp only [show s.size - 1 - (s.size - 1 - i) = i by omega] at h
  exact h
theorem mag_size {s : ByteArray} {N : Nat} (hs : s = ⟨(beN N).toArray⟩) : s.size = blen N := by
  subst hs; show (beN N).toArray.size = _; rw [List.size_toArray, beN_len]
set_option maxRecDepth 100000 in
set_option maxHeartbeats 2000000 in
theorem r1small_any (s : ByteArray) (N : Nat) (hs : s = ⟨(beN N).toArray⟩) (h8 : s.size < 8) (w : World) :
    Calls Try.prog 100 #[.string s] w fun e w' => e = .returned (.int .i64 N) ∧ w = w' := by
  have hN7 : N < 72057594037927936 := by
    have := blen_lt N
    rw [← mag_size hs] at this
    exact Nat.lt_of_lt_of_le this (Nat.pow_le_pow_right (show 0 < 256 by decide) (show s.size ≤ 7 by omega))
  have HS := hide hs
  clear hs
  go_enter Try.func100, Try.ntmps100
  go_wp2
  go_loopw [3, 4] (fun nv iv wr => ∃ i : Nat, iv = .int .i64 i ∧ nv = .int .i64 ((N / 256 ^ (s.size - i) : Nat) : Int) ∧ i ≤ s.size ∧ wr = w) (fun _ iv _ => s.size - (intOf iv).toNat)
  case atStart =>
    refine ⟨0, rfl, ?_, Nat.zero_le _, rfl⟩
    rw [Nat.sub_zero, mag_size HS.out, Nat.div_eq_of_lt (blen_lt N)]
    rfl
  case round =>
    obtain ⟨i, rfl, rfl, hi, rfl⟩ := hrel
    by_cases hlt : i < s.size
    · have hst := small_step N s.size i hlt
      have hat := mag_at HS.out hlt
      have hx : N / 256 ^ (s.size - i) < 281474976710656 := by
        rw [Nat.div_lt_iff_lt_mul (Nat.pow_pos (by decide))]
        have h1 : 256 ^ 1 ≤ 256 ^ (s.size - i) := Nat.pow_le_pow_right (by decide) (by omega)
        have h2 : 281474976710656 * 256 ^ 1 ≤ 281474976710656 * 256 ^ (s.size - i) := Nat.mul_le_mul_left _ h1
        omega
      obtain ⟨x, hxx⟩ : ∃ x, x = N / 256 ^ (s.size - i) := ⟨_, rfl⟩
      rw [← hxx] at hx hst ⊢
      rw [← hat] at hst
      have hcb : s[i].toNat < 256 := UInt8.toNat_lt _
      obtain ⟨cb, hcbe⟩ : ∃ cb, cb = s[i].toNat := ⟨_, rfl⟩
      have HST := hide hst
      clear hst hat hxx
      have hor := i64_or_nat' (x * 256) s[i].toNat (by omega) (by omega)
      rw [show ((x * 256 : Nat) : Int) = (x : Int) * 256 by omega] at hor
      go_wp2
      go_roundw
      case rel => exact ⟨i + 1, by go_num, by rw [HST.out], hlt, by first | exact trivial | rfl⟩
      case measure => simp [intOf]; omega
    · obtain rfl : i = s.size := by omega
      go_wp2
      go_ret
      refine ⟨?_, rfl⟩
      rw [Nat.sub_self, Nat.pow_zero, Nat.div_one]
      rfl
/-- block g is just the bytes l, of an array's type -/
def Byt8 (w : World) (g : Nat) (l : List UInt8) : Prop := w.heap[g]? = some (.cells (l.map byt).toArray 121 (0, 0))
section
variable {w w' : World} {g : Nat} {l : List UInt8}
theorem Byt8.cell (h : Byt8 w g l) {k : Nat} (hk : k < l.length) : w.cell? ⟨g, k, none⟩ = some (.int .u8 (l[k].toNat : Int)) := by
  rw [cell_of_row w g k _ 121 (0, 0) h]; simp [hk, byt]
theorem Byt8.free_ (h : Byt8 w g l) (k : Nat) : w.frozen? ⟨g, k, none⟩ = false := by
  unfold Byt8 at h; simp [World.frozen?, h]
theorem Byt8.set_ (h : Byt8 w g l) (k : Nat) (b : UInt8) : Byt8 (w.setCell ⟨g, k, none⟩ (.int .u8 (b.toNat : Int))) g (l.set k b) := by
  unfold Byt8 at h ⊢
  simp [World.setCell, Array.getElem?_modify, h, List.map_set, byt]
end
theorem beL_drop {m j S : Nat} (hj : j ≤ m) : (beL m S).drop (m - j) = beL j S := by
  apply List.ext_getElem
  · simp [beL]; omega
  · intro k h1 h2
    have hk : k < j := by rw [beL_len] at h2; exact h2
    rw [List.getElem_drop, beL_get, beL_get]
    congr 3
    omega
theorem byte_val (x : Nat) : ((UInt8.ofNat x).toNat : Int) = (x : Int) % 256 := by rw [UInt8.toNat_ofNat']; omega
set_option maxRecDepth 100000 in
set_option maxHeartbeats 2000000 in
theorem r1mag_any (N : Nat) (hN : N < 9223372036854775808) (w : World) :
    Calls Try.prog 76 #[.int .i64 N] w fun e w' => e = .returned (.string ⟨(beN N).toArray⟩) ∧ Below w.heap.size w w' := by
  by_cases h256 : N < 256
  · have hd : decide ((N : Int) < 256) = true := decide_eq_true (by omega)
    by_cases h0 : N = 0
    · subst h0
      go_enter Try.func76, Try.ntmps76
      go_wp2
      go_ret
      exact ⟨by rw [beN_zero]; rfl, Below.refl _ _⟩
    · have hz : ((N : Int) == 0) = false := by rw [beq_eq_false_iff_ne]; omega
      have hb : beN N = [UInt8.ofNat N] := by
        have := beN_snoc (M := 0) (c := N) h256 (by omega)
        rw [beN_zero, Nat.mul_zero, Nat.zero_add] at this
        exact this
      have hm : (N : Int) % 256 = N := by omega
      have hby : Byt (w.alloc (.cells #[.int .u8 (N : Int)] 5)) w.heap.size [UInt8.ofNat N] := by
        refine Byt.new_ w _ ?_
        have : ((UInt8.ofNat N).toNat : Int) = N := by rw [byte_val]; exact hm
        simp only [List.map_cons, List.map_nil, byt, this]
      have hcv := run_back_bytes hby (n := 1) (c := 1) rfl
      have HB := hide hb
      clear hb hby
      go_enter Try.func76, Try.ntmps76
      go_wp2
      go_ret
      refine ⟨by rw [HB.out]; rfl, (Below.refl _ w).alloc (Nat.le_refl _) _⟩
  · have hd : decide ((N : Int) < 256) = false := decide_eq_false (by omega)
    obtain ⟨B, hBB⟩ : ∃ B, w.heap.size = B := ⟨_, rfl⟩
    go_enter Try.func76, Try.ntmps76
    go_wp2
    have hW1 : Byt8 (w.alloc (Obj.cells #[Value.int .u8 0, Value.int .u8 0, Value.int .u8 0, Value.int .u8 0, Value.int .u8 0, Value.int .u8 0, Value.int .u8 0, Value.int .u8 0] 121)) B (beL 8 0) := by
      rw [← hBB]; exact heap_alloc_new w _
    have hW2 : Below B w (w.alloc (Obj.cells #[Value.int .u8 0, Value.int .u8 0, Value.int .u8 0, Value.int .u8 0, Value.int .u8 0, Value.int .u8 0, Value.int .u8 0, Value.int .u8 0] 121)) := by
      rw [← hBB]; exact (Below.refl _ w).alloc (Nat.le_refl _) _
    go_loopw [0, 4] (fun nv iv wr => ∃ j : Nat, nv = .int .i64 ((N / 256 ^ j : Nat) : Int) ∧ iv = .int .i64 ((8 - j : Nat) : Int) ∧ j ≤ 8 ∧ (0 < j → ¬ N < 256 ^ (j - 1)) ∧ Byt8 wr B (beL 8 (N % 256 ^ j)) ∧ Below B w wr) (fun _ iv => fun _ => (intOf iv).toNat)
    case atStart =>
      refine ⟨0, by rw [Nat.pow_zero, Nat.div_one], rfl, by decide, fun h => absurd h (by decide), ?_, hW2⟩
      rw [Nat.pow_zero, Nat.mod_one]
      exact hW1
    case round =>
      obtain ⟨j, rfl, rfl, hj, hj0, hL, hB⟩ := hrel
      obtain ⟨x, hx⟩ : ∃ x, x = N / 256 ^ j := ⟨_, rfl⟩
      rw [← hx]
      by_cases hx0 : x = 0
      · have hlt : N < 256 ^ j := (Nat.div_eq_zero_iff_lt (Nat.pow_pos (by decide))).1 (hx.symm.trans hx0)
        have hjp : 0 < j := by
          apply Nat.pos_of_ne_zero
          rintro rfl
          rw [Nat.pow_zero] at hlt
          omega
        have hbl : beL j N = beN N := beN_eq (by
          have := blen_here (m := j - 1) (S := N) (by rw [show j - 1 + 1 = j by omega]; exact hlt) (hj0 hjp)
          omega)
        have hbk := fun cap => run_convert_bytes_back (P := Try.prog) wr 65 9 5 ⟨B, 8 - j, none⟩ cap (beL j N) Try.underlying65 Try.underlying5 Try.underlying9 (fun k hk => by
          rw [beL_len] at hk
          have := hL.cell (k := 8 - j + k) (by rw [beL_len]; omega)
          rw [show (⟨B, 8 - j, none⟩ : Addr).add k = ⟨B, 8 - j + k, none⟩ by unfold Addr.add; split <;> simp_all, this]
          congr 3
          have e := beL_drop (m := 8) (j := j) (S := N) hj
          have e2 : N % 256 ^ j = N := Nat.mod_eq_of_lt hlt
          simp only [e2, ← e, List.getElem_drop])
        simp only [beL_len] at hbk
        simp only [hbl] at hbk
        have h8 : 8 - j ≤ 8 := by omega
        have HJ := hide hj0
        subst hx0
        clear hx hj0 hlt hbl
        have hc : j = 1 ∨ j = 2 ∨ j = 3 ∨ j = 4 ∨ j = 5 ∨ j = 6 ∨ j = 7 ∨ j = 8 := by omega
        rcases hc with rfl | rfl | rfl | rfl | rfl | rfl | rfl | rfl <;> simp only [Nat.reduceSub] at hbk ⊢ <;> (
          go_wp2
          go_ret
          refine ⟨rfl, ?_⟩
          rw [hBB]
          exact hB)
      · have hxn : N = N / 256 ^ 0 := by rw [Nat.pow_zero, Nat.div_one]
        have hxl : x < 9223372036854775808 := by rw [hx]; exact Nat.lt_of_le_of_lt (Nat.div_le_self _ _) hN
        have hj8 : j < 8 := by
          apply Nat.lt_of_le_of_ne hj
          rintro rfl
          exact hx0 (hx.trans (Nat.div_eq_of_lt (by omega)))
        have hn := beL_next (m := 8) (S := N) (i := j) hj8
        rw [← hx] at hn
        have hL2 := hL.set_ (8 - 1 - j) (UInt8.ofNat x)
        rw [hn] at hL2
        rw [byte_val] at hL2
        have hB2 := hB.setCell (p := ⟨B, 8 - 1 - j, none⟩) (Nat.le_refl _) (.int .u8 ((x : Int) % 256))
        have hqi : ((8 - j : Nat) : Int) - 1 = ((8 - 1 - j : Nat) : Int) := by omega
        obtain ⟨q, hq⟩ : ∃ q, q = 8 - 1 - j := ⟨_, rfl⟩
        rw [← hq] at hL2 hB2 hqi
        have hq8 : q < 8 := by omega
        have hcl := hL.cell (k := q) (by rw [beL_len]; exact hq8)
        have hfz := hL.free_ q
        have hnx : ¬ N < 256 ^ j := fun h => hx0 (hx.trans (Nat.div_eq_of_lt h))
        have hdv : N / 256 ^ (j + 1) = x / 256 := by rw [div_succ, ← hx]
        have HX := hide hx
        have HNX := hide hnx
        have HJ := hide hj0
        have HDV := hide hdv
        have HQ := hide hq
        clear hx hn hxn hnx hj0 hdv hq
        go_wp2
        go_roundw
        case rel =>
          refine ⟨j + 1, by rw [HDV.out]; congr 1, by rw [HQ.out, Nat.sub_sub, Nat.add_comm 1 j], by omega, fun _ => by rw [Nat.add_sub_cancel]; exact HNX.out, hL2, hB2⟩
        case measure => have := HQ.out; simp [intOf]; omega
set_option maxRecDepth 100000 in
set_option maxHeartbeats 2000000 in
theorem r1Of_any (N : Nat) (hN : N < 9223372036854775808) (w : World) :
    Calls Try.prog 53 #[.int .i64 N] w fun e w' => e = .returned (intV N) ∧ Below w.heap.size w w' := by
  have h0 : decide (0 ≤ (N : Int)) = true := decide_eq_true (by omega)
  have HM := hide (fun W => r1mag_any N hN W)
  have hk0 : ResI (w.alloc (Obj.cells #[Value.bool false, Value.string { data := #[] }] 39)) w.heap.size false ⟨#[]⟩ := ResI.new_ w _ _
  have hs0 : (w.alloc (Obj.cells #[Value.bool false, Value.string { data := #[] }] 39)).heap.size = w.heap.size + 1 := by simp
  have hB0 : Below w.heap.size w (w.alloc (Obj.cells #[Value.bool false, Value.string { data := #[] }] 39)) := (Below.refl _ w).alloc (Nat.le_refl _) _
  go_enter Try.func53, Try.ntmps53
  go_wp2_with fail
  generalize w.alloc (Obj.cells #[Value.bool false, Value.string { data := #[] }] 39) = W0 at hk0 hs0 hB0 ⊢
  obtain ⟨B, hBB⟩ : ∃ B, w.heap.size = B := ⟨_, rfl⟩
  rw [hBB] at hk0 hs0 hB0 ⊢
  refine (HM.out W0).mono ?_
  rintro e w1 ⟨rfl, hB1⟩
  rw [hs0] at hB1
  have hk1 := hk0.below hB1 (Nat.lt_succ_self _)
  have f0 := hk1.c0
  have f1 := hk1.c1
  have z0 := hk1.z0
  have z1 := hk1.z1
  go_wp2
  refine bodyPost_ret (ret_apiInt rfl _ _ B _ rfl (hk1.set_ _ _) rfl) rfl ?_
  refine ⟨rfl, ?_⟩
  rw [hBB]
  exact Below.pair (hB0.trans (hB1.mono (by omega))) (Nat.le_refl _) _ _
theorem boxes2 (w : World) (a b : Bool) (s t : ByteArray) :
    ResI ((w.alloc (.cells #[.bool a, .string s] 39)).alloc (.cells #[.bool b, .string t] 39)) w.heap.size a s ∧
    ResI ((w.alloc (.cells #[.bool a, .string s] 39)).alloc (.cells #[.bool b, .string t] 39)) (w.heap.size + 1) b t ∧
    ((w.alloc (.cells #[.bool a, .string s] 39)).alloc (.cells #[.bool b, .string t] 39)).heap.size = w.heap.size + 1 + 1 ∧
    Below w.heap.size w ((w.alloc (.cells #[.bool a, .string s] 39)).alloc (.cells #[.bool b, .string t] 39)) := by
  have h1 := ResI.new_ w a s
  have e1 : (w.alloc (.cells #[.bool a, .string s] 39)).heap.size = w.heap.size + 1 := by simp
  have b1 : Below w.heap.size w (w.alloc (.cells #[.bool a, .string s] 39)) := (Below.refl _ w).alloc (Nat.le_refl _) _
  generalize w.alloc (.cells #[.bool a, .string s] 39) = w1 at h1 e1 b1
  have h2 := ResI.new_ w1 b t
  have e2 : (w1.alloc (.cells #[.bool b, .string t] 39)).heap.size = w1.heap.size + 1 := by simp
  have b2 : Below w1.heap.size w1 (w1.alloc (.cells #[.bool b, .string t] 39)) := (Below.refl _ w1).alloc (Nat.le_refl _) _
  generalize w1.alloc (.cells #[.bool b, .string t] 39) = w2 at h2 e2 b2
  rw [e1] at h2 e2 b2
  exact ⟨h1.below b2 (by omega), h2, e2, b1.trans (b2.mono (by omega))⟩
theorem head_ne {s : ByteArray} {N : Nat} (hs : s = ⟨(beN N).toArray⟩) (h : 0 < s.size) : s[0] ≠ 0 := by
  intro h0
  have h1 := mag_at hs h
  rw [h0] at h1
  have h2 := mag_size hs
  have hN : N ≠ 0 := by rintro rfl; rw [blen_zero] at h2; omega
  have h3 := blen_ge N hN
  have h4 := blen_lt N
  rw [← h2] at h3 h4
  have h5 : N / 256 ^ (s.size - 1 - 0) < 256 := by
    rw [Nat.sub_zero, Nat.div_lt_iff_lt_mul (Nat.pow_pos (by decide)), Nat.mul_comm, ← Nat.pow_succ, show (s.size - 1).succ = s.size by omega]
    exact h4
  rw [Nat.mod_eq_of_lt h5, Nat.sub_zero] at h1
  have h6 : N / 256 ^ (s.size - 1) = 0 := h1.symm.trans (by rfl) |>.trans rfl
  have := (Nat.div_eq_zero_iff_lt (Nat.pow_pos (by decide))).1 h6
  omega
set_option maxRecDepth 100000 in
set_option maxHeartbeats 2000000 in
theorem r1Canon_any (s : ByteArray) (N : Nat) (hs : s = ⟨(beN N).toArray⟩) (w : World) :
    Calls Try.prog 77 #[.agg #[.bool false, .string s]] w fun e w' => e = .returned (.agg #[.bool false, .string s]) ∧ Below w.heap.size w w' := by
  obtain ⟨c0, c1, hs0, hB0⟩ := boxes2 w false false s ⟨#[]⟩
  have hhd := fun h => hide (head_ne hs h)
  have hsz := mag_size hs
  go_enter Try.func77, Try.ntmps77
  by_cases h0 : s.size = 0
  · have hN : N = 0 := by
      by_cases h : N = 0
      · exact h
      · rw [blen_pos h] at hsz; omega
    have hsn : s = ⟨#[]⟩ := by rw [hs, hN, beN_zero]
    subst hsn
    have HT := hide (fun W => r1trim_any ⟨#[]⟩ 0 0 rfl (hide (by decide)) (by decide) W)
    clear hs hhd hsz h0
    subst hN
    have he : (⟨(beN 0).toArray⟩ : ByteArray) = ⟨#[]⟩ := by rw [beN_zero]
    rw [he] at HT
    have HB0 := hide hB0
    go_wp2_with fail
    generalize hW : ((w.alloc (.cells #[.bool false, .string ⟨#[]⟩] 39)).alloc (.cells #[.bool false, .string ⟨#[]⟩] 39)) = W0 at c0 c1 hs0 ⊢
    refine (HT.out W0).mono ?_
    rintro e w1 ⟨rfl, rfl⟩
    have f0 := c0.c0
    have d0 := c1.c0
    have d1 := c1.c1
    have z0 := c1.z0
    have z1 := c1.z1
    go_wp2
    refine bodyPost_ret (ret_apiInt rfl _ _ (w.heap.size + 1) _ rfl (c1.set_ _ _) rfl) rfl ?_
    refine ⟨rfl, ?_⟩
    rw [← hW]
    exact Below.pair HB0.out (Nat.le_succ _) _ _
  · have hhd := (hhd (by omega)).out
    have hz : (0 : Int) < (s.size : Int) := by omega
    have hhb : ((s[0]'(by omega)).toNat : Int) ≠ 0 := by
      intro h
      exact hhd (UInt8.toNat_inj.1 (by simpa using h))
    have hhc : (((s[0]'(by omega)).toNat : Int) != 0) = true := by rw [bne_iff_ne]; exact hhb
    clear hs hhb hhd hB0
    have hsp : 0 < s.size := by omega
    clear c0 c1 hs0
    go_wp2
    obtain ⟨_, c1, _, hB2⟩ := boxes2 w false false s s
    refine bodyPost_ret (ret_apiInt rfl _ _ (w.heap.size + 1) _ rfl c1 rfl) rfl ?_
    exact ⟨rfl, hB2⟩
end Go.Proofs.Ytijeogengbphdaa
