import Derived.Test.YtpppbkdbpbpinaaGreatDoorG19
import Derived.Test.YtpppbkdbpbpinaaGreatDoorG8
import Derived.BigQuiet
import Derived.Test.YtpppbkdbpbpinaaGreatDoorG0
set_option linter.unusedSimpArgs false
set_option linter.unusedVariables false
/- distance.hamming, listed, Hamming. -/
set_option linter.unusedVariables false
namespace Go.Proofs.YtpppbkdbpbpinaaGreatDoor
open Go.RowKit
set_option maxRecDepth 100000 in
set_option maxHeartbeats 1000000 in
theorem dsham_any (u v : ByteArray) (w : World) (hs : u.size = v.size) (hb : u.size ≤ 4294967296) :
    Calls Tryz.prog 61 #[.string u, .string v] w fun e w' => e = .returned (.int .i64 (ham u v : Nat)) ∧ ∃ q, w' = w.drewN q := by
  have HS := hide hs
  clear hs
  go_enter Tryz.func61, Tryz.ntmps61
  go_wp2
  go_loopw [5, 9] (fun nv iv wr => ∃ k q n : Nat, k ≤ u.size ∧ Hid (n = hamK u v k) ∧ nv = .int .i64 n ∧ iv = .int .i64 k ∧ wr = w.drewN q) (fun _ iv _ => u.size - (intOf iv).toNat)
  case atStart => exact ⟨0, 0, 0, Nat.zero_le _, hide rfl, rfl, rfl, rfl⟩
  case round =>
    obtain ⟨k, q, n, hk, hn, rfl, rfl, rfl⟩ := hrel
    by_cases hlt : k < u.size
    · have hlt2 : k < v.size := by have := HS.out; omega
      have hk0 : (0 : Int) ≤ (k : Int) := by omega
      have hk1 : (k : Int) < (u.size : Int) := by omega
      have hk2 : (k : Int) < (v.size : Int) := by omega
      have hnb : n ≤ u.size := by have := hn.out; have := hamK_le u v k; omega
      have HE := hide (hamK_eq hlt hlt2)
      have HN := hide (hamK_ne hlt hlt2)
      go_wp2_with fail
      go_quiet (fail)
      by_cases hab : u[k] = v[k]
      · have hx : (((u[k].toNat : Nat) : Int) != ((v[k].toNat : Nat) : Int)) = false := by rw [hab]; simp
        have hs2 := HE.out hab
        rw [hx]
        clear HE HN hab hx
        go_wp2
        go_roundw
        case rel => exact ⟨k + 1, q + nq, n, by omega, hide (by rw [hs2]; exact hn.out), rfl, by go_num, by simp⟩
        case measure => simp [intOf]; omega
      · have hx : (((u[k].toNat : Nat) : Int) != ((v[k].toNat : Nat) : Int)) = true := by
          rw [bne_iff_ne]
          intro e
          exact hab (UInt8.toNat_inj.1 (by omega))
        have hs2 := HN.out hab
        rw [hx]
        clear HE HN hab hx
        go_wp2
        go_roundw
        case rel => exact ⟨k + 1, q + nq, n + 1, by omega, hide (by rw [hs2, hn.out]), by go_num, by go_num, by simp⟩
        case measure => simp [intOf]; omega
    · obtain rfl : k = u.size := by omega
      go_wp2
      go_ret
      exact ⟨by rw [hn.out]; rfl, q, rfl⟩
set_option maxRecDepth 100000 in
set_option maxHeartbeats 1000000 in
theorem dslisted_any (xs : List ByteArray) (A : Option Addr) (c : Nat) (w : World) (hR : RowT w A xs) (hb : xs.length ≤ 9223372036854775807) :
    Calls Tryz.prog 59 #[.slice A xs.length c] w fun e w' => e = .returned (.int .i64 (lsE xs)) ∧ w' = w := by
  by_cases h1 : 4096 < xs.length
  · rw [lsE_big h1]
    have h2 : decide (4096 < xs.length) = true := decide_eq_true h1
    have h3 : decide ((4096 : Int) < (xs.length : Int)) = true := decide_eq_true (by omega)
    clear hR
    go_enter Tryz.func59, Tryz.ntmps59
    go_wp2
    go_ret
    exact ⟨rfl, rfl⟩
  · have h2 : decide (4096 < xs.length) = false := decide_eq_false h1
    have h3 : decide ((4096 : Int) < (xs.length : Int)) = false := decide_eq_false (by omega)
    have HR := hide hR
    have HB := hide (fun k (hk : k < xs.length) => lsE_bad h1 hk)
    have HO := hide (lsE_ok h1)
    obtain ⟨z, hz⟩ : ∃ z, (xs.getD 0 ⟨#[]⟩).size = z := ⟨_, rfl⟩
    rw [hz] at HB HO
    have HZ := hide hz
    clear hR hz
    go_enter Tryz.func59, Tryz.ntmps59
    go_wp2
    go_loopw [10] (fun iv wr => ∃ k : Nat, k ≤ xs.length ∧ Hid (∀ j (hj : j < xs.length), j < k → xs[j].size = z) ∧ iv = .int .i64 k ∧ wr = w) (fun iv _ => xs.length - (intOf iv).toNat)
    case atStart => exact ⟨0, Nat.zero_le _, hide fun j _ h => absurd h (by omega), rfl, rfl⟩
    case round =>
      obtain ⟨k, hk, hsame, rfl, rfl⟩ := hrel
      by_cases hlt : k < xs.length
      · obtain ⟨b, o, rfl, _, hc⟩ := HR.out (by omega)
        have c1 := hc k hlt
        have c0 : wr.cell? ⟨b, o, none⟩ = some (.string xs[0]) := hc 0 (by omega)
        have hg : xs.getD 0 ⟨#[]⟩ = xs[0] := by rw [List.getD_eq_getElem?_getD, List.getElem?_eq_getElem (by omega)]; rfl
        have HB1 := hide (HB.out k hlt)
        have hzz := HZ.out
        rw [hg] at hzz
        obtain ⟨x, hx⟩ : ∃ x, xs[k] = x := ⟨_, rfl⟩
        obtain ⟨y, hy⟩ : ∃ y, xs[0] = y := ⟨_, rfl⟩
        have HX := hide hx
        rw [hx] at c1 HB1
        rw [hy] at c0 hzz
        subst hzz
        clear hc hg hx hy
        have hk0 : (0 : Int) ≤ (k : Int) := by omega
        have hk1 : (k : Int) < (xs.length : Int) := by omega
        by_cases he : x.size = y.size
        · have hn : ((x.size : Int) != (y.size : Int)) = false := by simp [he]
          have hn2 : (x.size != y.size) = false := by simp [he]
          have HE := hide he
          clear he HB1
          go_wp2
          go_roundw
          case rel =>
            refine ⟨k + 1, hlt, hide fun j hj hjk => ?_, by go_num, trivial⟩
            by_cases e : j < k
            · exact hsame.out j hj e
            · obtain rfl : j = k := by omega
              rw [HX.out, HE.out]
          case measure => simp [intOf]; omega
        · have hn : ((x.size : Int) != (y.size : Int)) = true := by rw [bne_iff_ne]; omega
          have hn2 : (x.size != y.size) = true := by rw [bne_iff_ne]; exact he
          have HE := hide (HB1.out he)
          clear he HB1
          go_wp2
          go_ret
          exact ⟨by rw [HE.out]; rfl, rfl⟩
      · obtain rfl : k = xs.length := by omega
        go_wp2
        go_ret
        exact ⟨by rw [HO.out fun j hj => hsame.out j hj hj]; rfl, rfl⟩
set_option maxRecDepth 100000 in
set_option maxHeartbeats 1000000 in
theorem dsHam_any (u v : ByteArray) (w : World) (hs : u.size = v.size) (hb : u.size ≤ 4294967296) :
    Calls Tryz.prog 29 #[.string u, .string v] w fun e w' => e = .returned (.tuple #[.int .i64 (ham u v : Nat), .int .i64 0]) ∧ ∃ q, w' = w.drewN q := by
  have HC := hide (fun W => dsham_any u v W hs hb)
  have hn : ((u.size : Int) != (v.size : Int)) = false := by simp [hs]
  clear hs
  go_enter Tryz.func29, Tryz.ntmps29
  go_wp2_with (go_at_call 61; refine (HC.out _).mono ?_; rintro e w' ⟨rfl, q, rfl⟩)
  go_ret2
  exact ⟨rfl, _, rfl⟩
end Go.Proofs.YtpppbkdbpbpinaaGreatDoor

/- Plain laws on numbers by digits: limbs to the base 2^32 (the least one first), bytes to the base 256 (the greatest one first). -/
set_option linter.unusedVariables false
namespace Go.Proofs.YtpppbkdbpbpinaaGreatDoor
/-! ### digits -/
theorem digit_mod (b S i j : Nat) (hb : 0 < b) : S % b ^ i / b ^ j % b = if j < i then S / b ^ j % b else 0 := by
  split
  · rename_i h
    obtain ⟨d, rfl⟩ : ∃ d, i = j + (d + 1) := ⟨i - j - 1, by omega⟩
    rw [Nat.pow_add, Nat.mod_mul_right_div_self, Nat.pow_succ, Nat.mul_comm (b ^ d), Nat.mod_mul_right_mod]
  · rename_i h
    rw [Nat.div_eq_of_lt (Nat.lt_of_lt_of_le (Nat.mod_lt _ (Nat.pow_pos hb)) (Nat.pow_le_pow_right hb (by omega)))]
    exact Nat.zero_mod _
theorem div_succ (b S i : Nat) : S / b ^ (i + 1) = S / b ^ i / b := by rw [Nat.pow_succ, Nat.div_div_eq_div_mul]
/-! ### limbs -/
def limbs (m N : Nat) : List Nat := (List.range m).map fun k => N / 4294967296 ^ k % 4294967296
theorem limbs_len (m N : Nat) : (limbs m N).length = m := by simp [limbs]
theorem limbs_get {m N k : Nat} (hk : k < (limbs m N).length) : (limbs m N)[k] = N / 4294967296 ^ k % 4294967296 := by simp [limbs]
theorem limbs_lt {m N k : Nat} (hk : k < (limbs m N).length) : (limbs m N)[k] < 4294967296 := by rw [limbs_get]; exact Nat.mod_lt _ (by decide)
theorem limbs_zero (m : Nat) : limbs m 0 = List.replicate m 0 := by
  apply List.ext_getElem
  · simp [limbs]
  · intro k h1 h2
    rw [limbs_get, List.getElem_replicate, Nat.zero_div]
theorem limbs_set {m N N' k v : Nat} (hv : v = N' / 4294967296 ^ k % 4294967296) (h : ∀ j, j < m → j ≠ k → N / 4294967296 ^ j % 4294967296 = N' / 4294967296 ^ j % 4294967296) :
    (limbs m N).set k v = limbs m N' := by
  apply List.ext_getElem
  · simp [limbs]
  · intro j h1 h2
    rw [limbs_get, List.getElem_set]
    have hj : j < m := by rw [limbs_len] at h2; exact h2
    split
    · rename_i e; subst e; exact hv
    · rename_i e; rw [limbs_get]; exact h j hj (by omega)
theorem limbs_next (m S i : Nat) : (limbs m (S % 4294967296 ^ i)).set i (S / 4294967296 ^ i % 4294967296) = limbs m (S % 4294967296 ^ (i + 1)) := by
  refine limbs_set ?_ fun j hj hne => ?_
  · rw [digit_mod _ _ _ _ (by decide), if_pos (by omega)]
  · rw [digit_mod _ _ _ _ (by decide), digit_mod _ _ _ _ (by decide)]
    by_cases h : j < i
    · rw [if_pos h, if_pos (by omega)]
    · rw [if_neg h, if_neg (by omega)]
theorem limbs_or (m N i : Nat) : (limbs m (N % 256 ^ i)).set (i / 4) (N % 256 ^ i / 4294967296 ^ (i / 4) % 4294967296 ||| N / 256 ^ i % 256 * 2 ^ (8 * (i % 4))) = limbs m (N % 256 ^ (i + 1)) := by
  have e1 : ∀ i, (256 : Nat) ^ i = 2 ^ (8 * i) := fun i => by rw [Nat.pow_mul]
  have e2 : ∀ i, (4294967296 : Nat) ^ i = 2 ^ (32 * i) := fun i => by rw [Nat.pow_mul]
  refine limbs_set ?_ fun j hj hne => ?_
  · apply Nat.eq_of_testBit_eq
    intro t
    rw [show (4294967296 : Nat) = 2 ^ 32 from rfl, show (N / 256 ^ i % 256 : Nat) = N / 256 ^ i % 2 ^ 8 from rfl, ← Nat.pow_mul, e1, e1, ← Nat.shiftLeft_eq]
    simp only [Nat.testBit_or, Nat.testBit_mod_two_pow, Nat.testBit_div_two_pow, Nat.testBit_shiftLeft]
    by_cases h32 : t < 32
    · by_cases h : 8 * (i % 4) ≤ t
      · have e3 : 8 * i + (t - 8 * (i % 4)) = 32 * (i / 4) + t := by omega
        have e4 : ¬ (32 * (i / 4) + t < 8 * i) := by omega
        rw [Nat.add_comm t, Nat.add_comm (t - 8 * (i % 4)), e3]
        simp only [h32, h, e4, decide_true, decide_false, Bool.true_and, Bool.false_and, Bool.false_or]
        congr 1
        exact decide_eq_decide.2 (by omega)
      · have e4 : t + 32 * (i / 4) < 8 * i := by omega
        have e5 : t + 32 * (i / 4) < 8 * (i + 1) := by omega
        simp [h32, h, e4, e5]
    · have h : 8 * (i % 4) ≤ t := by omega
      have e4 : ¬ (t - 8 * (i % 4) < 8) := by omega
      simp [h32, h, e4]
  · rw [e1, e1, show (4294967296 : Nat) = 2 ^ 32 from rfl, ← Nat.pow_mul]
    apply Nat.eq_of_testBit_eq
    intro t
    simp only [Nat.testBit_mod_two_pow, Nat.testBit_div_two_pow]
    by_cases h32 : t < 32
    · congr 2
      exact decide_eq_decide.2 (by omega)
    · simp [h32]
/-- the number of limbs -/
def Trm (N l : Nat) : Prop := N < 4294967296 ^ l ∧ (0 < l → 4294967296 ^ (l - 1) ≤ N)
theorem Trm.uniq {N l l' : Nat} (h : Trm N l) (h' : Trm N l') : l = l' := by
  have key : ∀ a b, Trm N a → Trm N b → ¬ a < b := by
    intro a b ha hb hlt
    have h1 := hb.2 (by omega)
    have h2 := Nat.pow_le_pow_right (show 0 < 4294967296 by decide) (show a ≤ b - 1 by omega)
    have := ha.1
    omega
  have := key l l' h h'
  have := key l' l h' h
  omega
theorem trm_down {N l : Nat} (h : N < 4294967296 ^ (l + 1)) (h0 : N / 4294967296 ^ l % 4294967296 = 0) : N < 4294967296 ^ l := by
  have h1 : N / 4294967296 ^ l < 4294967296 := by
    rw [Nat.div_lt_iff_lt_mul (Nat.pow_pos (by decide)), Nat.mul_comm, ← Nat.pow_succ]; exact h
  rw [Nat.mod_eq_of_lt h1] at h0
  exact (Nat.div_eq_zero_iff_lt (Nat.pow_pos (by decide))).1 h0
theorem trm_here {N l : Nat} (h : N < 4294967296 ^ (l + 1)) (h0 : N / 4294967296 ^ l % 4294967296 ≠ 0) : Trm N (l + 1) := by
  refine ⟨h, fun _ => ?_⟩
  rw [Nat.add_sub_cancel]
  apply Nat.le_of_not_lt
  intro hlt
  rw [Nat.div_eq_of_lt hlt] at h0
  exact h0 rfl
theorem Trm.zero {N : Nat} (h : Trm N 0) : N = 0 := by have := h.1; omega
theorem Trm.pos {N l : Nat} (h : Trm N l) (hl : 0 < l) : 0 < N := Nat.lt_of_lt_of_le (Nat.pow_pos (by decide)) (h.2 hl)
theorem Trm.le {N l m : Nat} (h : Trm N l) (hm : N < 4294967296 ^ m) : l ≤ m := by
  apply Nat.le_of_not_lt
  intro hlt
  have h1 := h.2 (by omega)
  have h2 := Nat.pow_le_pow_right (show 0 < 4294967296 by decide) (show m ≤ l - 1 by omega)
  omega
/-! ### a sum with its carry -/
theorem add_carry (b X Y i c : Nat) (hb : 0 < b) (h : (X + Y) / b ^ i = X / b ^ i + Y / b ^ i + c) :
    (X + Y) / b ^ i % b = (X / b ^ i % b + Y / b ^ i % b + c) % b ∧ (X + Y) / b ^ (i + 1) = X / b ^ (i + 1) + Y / b ^ (i + 1) + (X / b ^ i % b + Y / b ^ i % b + c) / b := by
  rw [div_succ, div_succ, div_succ, h]
  generalize X / b ^ i = x
  generalize Y / b ^ i = y
  constructor
  · rw [Nat.add_mod (x % b + y % b), ← Nat.add_mod x y, ← Nat.add_mod]
  · have hx := Nat.div_add_mod x b
    have hy := Nat.div_add_mod y b
    have e : x + y + c = b * (x / b + y / b) + (x % b + y % b + c) := by rw [Nat.mul_add]; omega
    rw [e, Nat.mul_add_div hb]
/-! ### bytes -/
def blen (n : Nat) : Nat := if h : n = 0 then 0 else blen (n / 256) + 1
termination_by n
decreasing_by omega
theorem blen_zero : blen 0 = 0 := by rw [blen]; simp
theorem blen_pos {n : Nat} (h : n ≠ 0) : blen n = blen (n / 256) + 1 := by rw [blen]; simp [h]
theorem blen_lt (n : Nat) : n < 256 ^ blen n := by
  induction n using Nat.strongRecOn with
  | _ n ih =>
    by_cases h : n = 0
    · subst h; rw [blen_zero]; decide
    · rw [blen_pos h, Nat.pow_succ]
      have := ih (n / 256) (by omega)
      omega
theorem blen_ge (n : Nat) (h : n ≠ 0) : 256 ^ (blen n - 1) ≤ n := by
  induction n using Nat.strongRecOn with
  | _ n ih =>
    rw [blen_pos h, Nat.add_sub_cancel]
    by_cases h1 : n / 256 = 0
    · rw [h1, blen_zero]; show 1 ≤ n; omega
    · have h2 := ih (n / 256) (by omega) h1
      have h3 := blen_pos h1
      rw [h3, Nat.add_sub_cancel] at h2
      rw [h3, Nat.pow_succ]
      omega
theorem blen_le {n m : Nat} (h : n < 256 ^ m) : blen n ≤ m := by
  by_cases h0 : n = 0
  · subst h0; rw [blen_zero]; exact Nat.zero_le _
  · apply Nat.le_of_not_lt
    intro hlt
    have h1 := blen_ge n h0
    have h2 := Nat.pow_le_pow_right (show 0 < 256 by decide) (show m ≤ blen n - 1 by omega)
    omega
/-- m bytes, the greatest one first -/
def beL (m S : Nat) : List UInt8 := (List.range m).map fun k => UInt8.ofNat (S / 256 ^ (m - 1 - k))
def beN (n : Nat) : List UInt8 := beL (blen n) n
theorem beL_len (m S : Nat) : (beL m S).length = m := by simp [beL]
theorem beN_len (n : Nat) : (beN n).length = blen n := beL_len _ _
theorem beL_get {m S k : Nat} (hk : k < (beL m S).length) : (beL m S)[k] = UInt8.ofNat (S / 256 ^ (m - 1 - k)) := by simp [beL]
theorem beL_snoc (m M c : Nat) (hc : c < 256) : beL (m + 1) (256 * M + c) = beL m M ++ [UInt8.ofNat c] := by
  unfold beL
  rw [List.range_succ, List.map_append]
  congr 1
  · apply List.map_congr_left
    intro k hk
    have hk' := List.mem_range.1 hk
    have e : m + 1 - 1 - k = (m - 1 - k) + 1 := by omega
    have e2 : (256 * M + c) / 256 = M := by omega
    rw [e, Nat.pow_succ, Nat.mul_comm (256 ^ _), ← Nat.div_div_eq_div_mul, e2]
  · simp only [List.map_cons, List.map_nil, Nat.add_sub_cancel, Nat.sub_self, Nat.pow_zero, Nat.div_one]
    congr 1
    apply UInt8.toNat_inj.1
    rw [UInt8.toNat_ofNat', UInt8.toNat_ofNat']
    omega
theorem beN_snoc {M c : Nat} (hc : c < 256) (h : 0 < 256 * M + c) : beN (256 * M + c) = beN M ++ [UInt8.ofNat c] := by
  unfold beN
  rw [blen_pos (by omega), show (256 * M + c) / 256 = M by omega, beL_snoc _ _ _ hc]
theorem beN_zero : beN 0 = [] := by unfold beN; rw [blen_zero]; rfl
theorem beN_nil {n : Nat} : beN n = [] ↔ n = 0 := by
  constructor
  · intro h
    have := congrArg List.length h
    rw [beN_len] at this
    by_cases h0 : n = 0
    · exact h0
    · rw [blen_pos h0] at this; simp at this
  · rintro rfl; exact beN_zero
theorem beN_eq {m S : Nat} (h : blen S = m) : beL m S = beN S := by subst h; rfl
theorem beL_zero (m : Nat) : beL m 0 = List.replicate m 0 := by
  apply List.ext_getElem
  · simp [beL]
  · intro k h1 h2
    rw [beL_get, List.getElem_replicate, Nat.zero_div]; rfl
/-- the byte from the end -/
theorem beL_back {m S i : Nat} (hi : i < m) (hk : m - 1 - i < (beL m S).length) : (beL m S)[m - 1 - i].toNat = S / 256 ^ i % 256 := by
  rw [beL_get, UInt8.toNat_ofNat', show m - 1 - (m - 1 - i) = i by omega]
theorem beL_next {m S i : Nat} (hi : i < m) : (beL m (S % 256 ^ i)).set (m - 1 - i) (UInt8.ofNat (S / 256 ^ i)) = beL m (S % 256 ^ (i + 1)) := by
  apply List.ext_getElem
  · simp [beL]
  · intro k h1 h2
    have hk : k < m := by rw [beL_len] at h2; exact h2
    rw [beL_get, List.getElem_set]
    apply UInt8.toNat_inj.1
    split
    · rename_i e
      subst e
      rw [UInt8.toNat_ofNat', UInt8.toNat_ofNat', show m - 1 - (m - 1 - i) = i by omega]
      have := digit_mod 256 S (i + 1) i (by decide)
      rw [if_pos (by omega)] at this
      exact this.symm
    · rename_i e
      rw [beL_get, UInt8.toNat_ofNat', UInt8.toNat_ofNat']
      have h1 := digit_mod 256 S (i + 1) (m - 1 - k) (by decide)
      have h2 := digit_mod 256 S i (m - 1 - k) (by decide)
      have e2 : (m - 1 - k < i + 1) = (m - 1 - k < i) := propext ⟨fun h => by omega, fun h => by omega⟩
      simp only [e2] at h1
      exact h2.trans h1.symm
theorem beL_head {m S : Nat} (h0 : S < 256 ^ (m + 1)) (hk : 0 < (beL (m + 1) S).length) : ((beL (m + 1) S)[0] = 0 ↔ S < 256 ^ m) := by
  rw [beL_get, show m + 1 - 1 - 0 = m by omega]
  have h1 : S / 256 ^ m < 256 := by
    rw [Nat.div_lt_iff_lt_mul (Nat.pow_pos (by decide)), Nat.mul_comm, ← Nat.pow_succ]; exact h0
  constructor
  · intro h
    have := congrArg UInt8.toNat h
    rw [UInt8.toNat_ofNat'] at this
    have h2 : S / 256 ^ m = 0 := by
      rw [Nat.mod_eq_of_lt (show S / 256 ^ m < 2 ^ 8 from h1)] at this
      exact this
    exact (Nat.div_eq_zero_iff_lt (Nat.pow_pos (by decide))).1 h2
  · intro h
    rw [Nat.div_eq_of_lt h]; rfl
theorem beL_tail {m S : Nat} : (beL (m + 1) S).drop 1 = beL m S := by
  apply List.ext_getElem
  · simp [beL]
  · intro k h1 h2
    rw [List.getElem_drop, beL_get, beL_get]
    congr 3
    omega
theorem blen_here {m S : Nat} (h : S < 256 ^ (m + 1)) (h1 : ¬ S < 256 ^ m) : blen S = m + 1 := by
  have h2 := blen_le h
  have h3 := blen_lt S
  have h4 : ¬ blen S ≤ m := fun hle => h1 (Nat.lt_of_lt_of_le h3 (Nat.pow_le_pow_right (by decide) hle))
  omega
end Go.Proofs.YtpppbkdbpbpinaaGreatDoor
