/- The walk of the law IndelBalls. -/
import Derived.Test.YtmajalpmbppkpaaL47a
import Derived.Test.YtmajalpmbppkpaaRSep
set_option linter.unusedVariables false
namespace Go.Proofs.Ytmajalpmbppkpaa
open Go.RowKit
def longTen (s : ByteArray) : Bool := (decide (10 < s.size) && decide (s.size ≤ 256)) || decide (264 < s.size)
theorem rlongten_any (s : ByteArray) (w : World) :
    Calls Try.prog 29 #[.string s, .int .i64 10] w fun e w' => e = .returned (.bool (longTen s)) ∧ w = w' := by
  have hB : ∀ x y z : Bool, decide ((10 : Int) < (s.size : Int)) = x → decide ((s.size : Int) ≤ 256) = y → decide ((264 : Int) < (s.size : Int)) = z → longTen s = ((x && y) || z) := by
    intro x y z h1 h2 h3
    subst h1 h2 h3
    unfold longTen
    rw [show decide (10 < s.size) = decide ((10 : Int) < (s.size : Int)) from decide_eq_decide.2 (by omega), show decide (s.size ≤ 256) = decide ((s.size : Int) ≤ 256) from decide_eq_decide.2 (by omega), show decide (264 < s.size) = decide ((264 : Int) < (s.size : Int)) from decide_eq_decide.2 (by omega)]
  cases d1 : decide ((10 : Int) < (s.size : Int)) <;> cases d2 : decide ((s.size : Int) ≤ 256) <;> cases d3 : decide ((264 : Int) < (s.size : Int)) <;> (
    have HB := hide (hB _ _ _ d1 d2 d3)
    clear hB
    go_enter Try.func29, Try.ntmps29
    go_wp2
    go_ret
    exact ⟨by rw [HB.out]; rfl, rfl⟩)
def bigB (s : ByteArray) : Bool := decide ((10 : Int) < (s.size : Int))
set_option maxRecDepth 100000 in
theorem ballsf_any (s : ByteArray) (w : World) :
    Calls Try.prog 46 #[.string s] w fun e w' => e = .returned (.bool (bigB s)) ∧ w = w' := by
  cases h : decide ((10 : Int) < (s.size : Int)) <;> (
    have HB := hide (show bigB s = _ from h)
    go_enter Try.func46, Try.ntmps46
    go_wp2
    go_ret
    exact ⟨by rw [HB.out]; rfl, rfl⟩)
set_option maxRecDepth 100000 in
set_option maxHeartbeats 1000000 in
theorem idxbf_any (xs : List ByteArray) (A : Option Addr) (c : Nat) (w : World) (hR : RowS w A xs) (hb : xs.length ≤ 4294967296) :
    Calls Try.prog 79 #[.slice A xs.length c, .func (.func 46) #[] #[]] w fun e w' => (∃ z : Int, e = .returned (.int .i64 z) ∧ decide (0 ≤ z) = xs.any bigB) ∧ w = w' := by
  have HR := hide hR
  have HF := hide (fun a W => ballsf_any a W)
  clear hR
  go_enter Try.func79, Try.ntmps79
  go_wp2
  go_loopw [8] (fun i wr => ∃ k : Nat, k ≤ xs.length ∧ i = .int .i64 k ∧ Hid (∀ j (hj : j < xs.length), j < k → bigB xs[j] = false) ∧ wr = w) (fun i _ => xs.length - (intOf i).toNat)
  case atStart => exact ⟨0, Nat.zero_le _, rfl, hide fun j _ h => absurd h (by omega), rfl⟩
  case round =>
    obtain ⟨k, hk, rfl, hs, rfl⟩ := hrel
    by_cases hlt : k < xs.length
    · obtain ⟨a0, rfl, hab, hcell⟩ := HR.out (by omega)
      have c1 := hcell k hlt
      obtain ⟨a, ha⟩ : ∃ a, a = xs[k] := ⟨_, rfl⟩
      rw [← ha] at c1
      have HA := hide ha
      clear ha hcell
      have hk0 : (0 : Int) ≤ (k : Int) := by omega
      have hk1 : (k : Int) < (xs.length : Int) := by omega
      by_cases h6 : bigB a = true
      · have H6 := hide h6
        clear h6
        go_wp2_with (go_at_call 46; refine (HF.out a _).mono ?_; rintro e w1 ⟨rfl, rfl⟩; rw [H6.out])
        go_ret
        refine ⟨⟨k, rfl, ?_⟩, rfl⟩
        have : xs.any bigB = true := by
          rw [List.any_eq_true]
          exact ⟨xs[k], List.getElem_mem hlt, by rw [← HA.out, H6.out]⟩
        rw [this]; simp
      · have H6 := hide (show bigB a = false by simpa using h6)
        clear h6
        go_wp2_with (go_at_call 46; refine (HF.out a _).mono ?_; rintro e w1 ⟨rfl, rfl⟩; rw [H6.out])
        go_roundw
        case rel =>
          refine ⟨k + 1, by omega, by go_num, hide fun j hj hjk => ?_, by first | exact trivial | rfl⟩
          by_cases e : j < k
          · exact hs.out j hj e
          · obtain rfl : j = k := by omega
            rw [← HA.out]; exact H6.out
        case measure => simp [intOf]; omega
    · obtain rfl : k = xs.length := by omega
      go_wp2
      go_ret
      refine ⟨⟨-1, rfl, ?_⟩, rfl⟩
      have : xs.any bigB = false := by
        rw [List.any_eq_false]
        intro x hx
        obtain ⟨j, hj, rfl⟩ := List.getElem_of_mem hx
        rw [hs.out j hj hj]; simp
      rw [this]; rfl
set_option maxRecDepth 100000 in
set_option maxHeartbeats 1000000 in
theorem contbf_any (xs : List ByteArray) (A : Option Addr) (c : Nat) (w : World) (hR : RowS w A xs) (hb : xs.length ≤ 4294967296) :
    Calls Try.prog 45 #[.slice A xs.length c, .func (.func 46) #[] #[]] w fun e w' => e = .returned (.bool (xs.any bigB)) ∧ w = w' := by
  have HI := hide (idxbf_any xs A c w hR hb)
  clear hR
  go_enter Try.func45, Try.ntmps45
  go_wp2_with fail
  refine HI.out.mono ?_
  rintro e w1 ⟨⟨z, rfl, hz⟩, rfl⟩
  have HZ := hide hz
  clear hz
  go_wp2
  go_ret
  exact ⟨by rw [← HZ.out]; rfl, rfl⟩
theorem asc_len2 {rs : List ByteArray} {L : List (List UInt8)} (h : Asc rs) (hs : ∀ z ∈ rs, z.data.toList ∈ L) : rs.length ≤ L.length := by
  have hn : (rs.map fun y => y.data.toList).Nodup := List.pairwise_map.2 ((show List.Pairwise (fun a b : ByteArray => a.data.toList < b.data.toList) rs from h).imp fun {a b} (hlt : a.data.toList < b.data.toList) (e : a.data.toList = b.data.toList) => by rw [e] at hlt; exact List.lt_irrefl _ hlt)
  have h1 := len_subset (m := L) hn (fun x hx => by
    obtain ⟨y, hy, rfl⟩ := List.mem_map.1 hx
    exact hs y hy)
  rwa [List.length_map] at h1
theorem dels_length (s : ByteArray) (k : Nat) : (dels s k).length ≤ k := by
  unfold dels
  rw [List.length_map]
  have := List.length_filter_le (runAt s) (List.range k)
  rwa [List.length_range] at this
theorem inss_length (s : ByteArray) (q : Nat) : ∀ i, (inss s q i).length = i * q
  | 0 => by simp [inss]
  | i + 1 => by rw [inss_succ, List.length_append, inss_length s q i, Nat.succ_mul]; simp [insRow]
theorem ascs_eq : ∀ {xs ys : List ByteArray}, Asc xs → Asc ys → (∀ z, z ∈ xs ↔ z ∈ ys) → xs = ys
  | [], [], _, _, _ => rfl
  | [], y :: ys, _, _, h => absurd ((h y).2 (by simp)) (by simp)
  | x :: xs, [], _, _, h => absurd ((h x).1 (by simp)) (by simp)
  | x :: xs, y :: ys, h1, h2, h => by
    have p1 := List.pairwise_cons.1 h1
    have p2 := List.pairwise_cons.1 h2
    have e : x = y := by
      rcases List.mem_cons.1 ((h x).1 (by simp)) with e | hx
      · exact e
      · rcases List.mem_cons.1 ((h y).2 (by simp)) with e | hy
        · exact e.symm
        · exact absurd (List.lt_trans (p2.1 x hx) (p1.1 y hy)) (List.lt_irrefl _)
    subst e
    have : xs = ys := ascs_eq p1.2 p2.2 fun z => by
      have hz := h z
      constructor
      · intro hx
        rcases List.mem_cons.1 (hz.1 (by simp [hx])) with e | hy
        · subst e; exact absurd (p1.1 _ hx) (List.lt_irrefl _)
        · exact hy
      · intro hy
        rcases List.mem_cons.1 (hz.2 (by simp [hy])) with e | hx
        · subst e; exact absurd (p2.1 _ hy) (List.lt_irrefl _)
        · exact hx
    rw [this]
theorem del_pair {s : ByteArray} {r1 r2 : List ByteArray} (h1 : (ckl [s] = 0 → DelRes s r1) ∧ (ckl [s] ≠ 0 → r1 = [])) (h2 : (ckl [s] = 0 → DelRes s r2) ∧ (ckl [s] ≠ 0 → r2 = [])) : r1 = r2 ∧ r1.length ≤ 4294967296 := by
  by_cases hc : ckl [s] = 0
  · have a := h1.1 hc
    have b := h2.1 hc
    have hs := ckl_sizes hc s (by simp)
    have hl := asc_len2 a.1 (fun z hz => (a.2 z).1 hz)
    have := dels_length s s.size
    exact ⟨ascs_eq a.1 b.1 fun z => by rw [a.2, b.2], by omega⟩
  · rw [h1.2 hc, h2.2 hc]; exact ⟨rfl, by simp⟩
theorem ins_pair {q : Int} {s : ByteArray} {r1 r2 : List ByteArray} (h1 : (insE q s = 0 → InsRes q.toNat s r1) ∧ (insE q s ≠ 0 → r1 = [])) (h2 : (insE q s = 0 → InsRes q.toNat s r2) ∧ (insE q s ≠ 0 → r2 = [])) : r1 = r2 ∧ r1.length ≤ 4294967296 := by
  by_cases hc : insE q s = 0
  · have a := h1.1 hc
    have b := h2.1 hc
    have hq : ¬ (q < 1 ∨ 16 < q) := fun h => by unfold insE at hc; rw [if_pos h] at hc; omega
    have hs : ¬ 256 ≤ s.size := fun h => by unfold insE at hc; rw [if_neg hq, if_pos h] at hc; omega
    have hl := asc_len2 a.1 (fun z hz => (a.2 z).1 hz)
    rw [inss_length] at hl
    have h3 : (s.size + 1) * q.toNat ≤ 257 * 16 := Nat.mul_le_mul (by omega) (by omega)
    exact ⟨ascs_eq a.1 b.1 fun z => by rw [a.2, b.2], by omega⟩
  · rw [h1.2 hc, h2.2 hc]; exact ⟨rfl, by simp⟩
theorem ball_pair {n : Int} {s : ByteArray} {r1 r2 : List ByteArray} (hs : s.size ≤ 12 ∨ ckl [s] ≠ 0) (h1 : (bErr s n = 0 → BallRes s n.toNat r1) ∧ (bErr s n ≠ 0 → r1 = [])) (h2 : (bErr s n = 0 → BallRes s n.toNat r2) ∧ (bErr s n ≠ 0 → r2 = [])) : r1 = r2 ∧ r1.length ≤ 4294967296 := by
  by_cases hc : bErr s n = 0
  · have a := h1.1 hc
    have b := h2.1 hc
    have hk : ckl [s] = 0 := Decidable.byContradiction fun h => by unfold bErr at hc; rw [if_pos h] at hc; exact h hc
    have hs12 := hs.resolve_right (fun h => h hk)
    have hl := ball_len a
    have h3 := Nat.pow_le_pow_right (show 0 < 2 by omega) hs12
    exact ⟨ascs_eq a.1 b.1 fun z => by rw [a.2, b.2], by omega⟩
  · rw [h1.2 hc, h2.2 hc]; exact ⟨rfl, by simp⟩
theorem slEq_same (xs : List ByteArray) (v v' : Value) (w : World) (h1 : RdS w v xs) (h2 : RdS w v' xs) (hb : xs.length ≤ 4294967296) :
    Calls Try.prog 42 #[v, v'] w fun e w' => e = .returned (.bool true) ∧ ∃ q, w' = w.drewN q := by
  have h := slEqual_any xs xs v v' w h1 h2 hb hb
  rwa [show decide (xs = xs) = true from decide_eq_true rfl] at h
theorem RdS.below {w w' : World} {v : Value} {B : Nat} {xs : List ByteArray} (h : Strs w B v xs) (hB : Below w.heap.size w w') : RdS w' v xs := (h.below hB).rd
set_option maxRecDepth 100000 in
set_option maxHeartbeats 4000000 in
theorem lBalls_any (q n : Int) (s : ByteArray) (xs : List ByteArray) (A : Option Addr) (c : Nat) (wq : (Lit.int .i64 q).wf = true) (wn : (Lit.int .i64 n).wf = true) (ws : s.size ≤ maxLen) (hc : xs.length ≤ c) (hcm : c ≤ 9223372036854775807) (w : World) (hR : RowS w A xs) :
    Calls Try.prog 10 #[.int .i64 q, .int .i64 n, .string s, .slice A xs.length c] w fun e w' => e = .returned (.bool true) ∧ Below w.heap.size w w' := by
  have hn : -9223372036854775808 ≤ n ∧ n ≤ 9223372036854775807 := bounds_i64 wn
  have C1 := fun W => rlongten_any s W
  have HR := hide hR
  clear hR wq wn ws
  cases hu : longTen s with
  | true =>
    rw [hu] at C1
    have H1 := hide C1
    clear C1 hu
    go_enter Try.func10, Try.ntmps10
    go_wp2_with fail
    refine (H1.out _).mono ?_
    rintro e w1 ⟨rfl, rfl⟩
    go_wp2_with (go_at_call 24; refine (awake47_any _).mono ?_; rintro e w7 ⟨rfl, hB7⟩)
    go_ret
    exact ⟨rfl, hB7⟩
  | false =>
    rw [hu] at C1
    have H1 := hide C1
    have hs12 : s.size ≤ 12 ∨ ckl [s] ≠ 0 := by
      by_cases h : s.size ≤ 256
      · left
        unfold longTen at hu
        simp at hu
        omega
      · right
        rw [ckl_single, if_neg h]; omega
    have HS12 := hide hs12
    clear C1 hu hs12
    by_cases g1 : 8 < xs.length ∧ xs.length ≤ 256
    · have d1 : decide ((8 : Int) < (xs.length : Int)) = true := decide_eq_true (by omega)
      have d2 : decide ((xs.length : Int) ≤ 256) = true := decide_eq_true (by omega)
      clear g1
      go_enter Try.func10, Try.ntmps10
      go_wp2_with fail
      refine (H1.out _).mono ?_
      rintro e w1 ⟨rfl, rfl⟩
      go_wp2_with (go_at_call 24; refine (awake47_any _).mono ?_; rintro e w7 ⟨rfl, hB7⟩)
      go_ret
      exact ⟨rfl, hB7⟩
    by_cases g2 : 260 < xs.length
    · have d1 : decide ((8 : Int) < (xs.length : Int)) = true := decide_eq_true (by omega)
      have d2 : decide ((xs.length : Int) ≤ 256) = false := decide_eq_false (by omega)
      have d3 : decide ((260 : Int) < (xs.length : Int)) = true := decide_eq_true (by omega)
      clear g1 g2
      go_enter Try.func10, Try.ntmps10
      go_wp2_with fail
      refine (H1.out _).mono ?_
      rintro e w1 ⟨rfl, rfl⟩
      go_wp2_with (go_at_call 24; refine (awake47_any _).mono ?_; rintro e w7 ⟨rfl, hB7⟩)
      go_ret
      exact ⟨rfl, hB7⟩
    have hdd : decide ((8 : Int) < (xs.length : Int)) = false ∨ (decide ((8 : Int) < (xs.length : Int)) = true ∧ decide ((xs.length : Int) ≤ 256) = false) := by
      by_cases h : 8 < xs.length
      · exact .inr ⟨decide_eq_true (by omega), decide_eq_false (by omega)⟩
      · exact .inl (decide_eq_false (by omega))
    have d3 : decide ((260 : Int) < (xs.length : Int)) = false := decide_eq_false (by omega)
    have hlen : xs.length ≤ 4294967296 := by omega
    have BG := contbf_any xs A c w HR.out hlen
    clear g1 g2
    cases hbig : xs.any bigB with
    | true =>
      rw [hbig] at BG
      have HBG := hide BG
      clear BG hbig
      rcases hdd with d1 | ⟨d1, d2⟩ <;> (
        go_enter Try.func10, Try.ntmps10
        go_wp2_with fail
        refine (H1.out _).mono ?_
        rintro e w1 ⟨rfl, rfl⟩
        go_wp2_with fail
        refine HBG.out.mono ?_
        rintro e w1 ⟨rfl, rfl⟩
        go_wp2_with (go_at_call 24; refine (awake47_any _).mono ?_; rintro e w7 ⟨rfl, hB7⟩)
        go_ret
        exact ⟨rfl, hB7⟩)
    | false =>
      rw [hbig] at BG
      have HBG := hide BG
      have U1 := fun W => del_any s W
      have U2 := fun W => rdel_any s W
      have U3 := fun W => iins_any q s W
      have U4 := fun W => rins_any q s W
      have U5 := fun W => ball_any s n hn HS12.out W
      have U6 := fun W => rball_any s n HS12.out W
      have P1 := fun r1 r2 => @del_pair s r1 r2
      have P2 := fun r1 r2 => @ins_pair q s r1 r2
      have P3 := fun r1 r2 => @ball_pair n s r1 r2 HS12.out
      obtain ⟨z1, hz1⟩ : ∃ z, z = ckl [s] := ⟨_, rfl⟩
      obtain ⟨z2, hz2⟩ : ∃ z, z = insE q s := ⟨_, rfl⟩
      obtain ⟨z3, hz3⟩ : ∃ z, z = bErr s n := ⟨_, rfl⟩
      rw [← hz1] at U1 U2 P1
      rw [← hz2] at U3 U4 P2
      rw [← hz3] at U5 U6 P3
      have D1 := hide U1
      have D2 := hide U2
      have D3 := hide U3
      have D4 := hide U4
      have D5 := hide U5
      have D6 := hide U6
      have DP := hide P1
      have IP := hide P2
      have BP := hide P3
      obtain ⟨p, hpp⟩ : ∃ p, p = sepV xs n := ⟨_, rfl⟩
      obtain ⟨p1, p2⟩ := p
      clear BG hbig U1 U2 U3 U4 U5 U6 P1 P2 P3 hz1 hz2 hz3 HS12 hn
      rcases hdd with d1 | ⟨d1, d2⟩ <;> (
        go_enter Try.func10, Try.ntmps10
        go_wp2_with fail
        refine (H1.out _).mono ?_
        rintro e w1 ⟨rfl, rfl⟩
        go_wp2_with fail
        refine HBG.out.mono ?_
        rintro e w1 ⟨rfl, rfl⟩
        go_wp2_with fail
        refine (D1.out _).mono ?_
        rintro e w1 ⟨v1, rfl, ⟨r1, hr1, hp1⟩, hB1⟩
        go_wp2_with fail
        refine (D2.out _).mono ?_
        rintro e w2 ⟨v2, rfl, ⟨r2, hr2, hp2⟩, hB2⟩
        obtain ⟨rfl, hl1⟩ := DP.out r1 r2 hp1 hp2
        have hr1 := hr1.below hB2
        have hBa := below2 hB1 hB2
        clear hp1 hp2 hB1 hB2 D1 D2 DP
        go_wp2_with fail
        refine (D3.out _).mono ?_
        rintro e w3 ⟨v3, rfl, ⟨r3, hr3, hp1⟩, hB3⟩
        have hr1 := hr1.below hB3
        have hr2 := hr2.below hB3
        go_wp2_with fail
        refine (D4.out _).mono ?_
        rintro e w4 ⟨v4, rfl, ⟨r4, hr4, hp2⟩, hB4⟩
        obtain ⟨rfl, hl2⟩ := IP.out r3 r4 hp1 hp2
        have hr1 := hr1.below hB4
        have hr2 := hr2.below hB4
        have hr3 := hr3.below hB4
        have hBb := below2 (below2 hBa hB3) hB4
        clear hp1 hp2 hB3 hB4 D3 D4 IP hBa
        go_wp2_with fail
        refine (D5.out _).mono ?_
        rintro e w5 ⟨v5, rfl, ⟨r5, hr5, hp1⟩, hB5⟩
        have hr1 := hr1.below hB5
        have hr2 := hr2.below hB5
        have hr3 := hr3.below hB5
        have hr4 := hr4.below hB5
        go_wp2_with fail
        refine (D6.out _).mono ?_
        rintro e w6 ⟨v6, rfl, ⟨r6, hr6, hp2⟩, hB6⟩
        obtain ⟨rfl, hl3⟩ := BP.out r5 r6 hp1 hp2
        have hr1 := hr1.below hB6
        have hr2 := hr2.below hB6
        have hr3 := hr3.below hB6
        have hr4 := hr4.below hB6
        have hr5 := hr5.below hB6
        have hBc := below2 (below2 hBb hB5) hB6
        clear hp1 hp2 hB5 hB6 D5 D6 BP hBb
        have hR6 := HR.out.below hBc
        have D7 := isep_any xs A c n w6 hR6 hc hcm
        rw [← hpp] at D7
        simp only [] at D7
        have H7 := hide D7
        clear D7
        go_wp2_with fail
        refine H7.out.mono ?_
        rintro e w7 ⟨rfl, hB7⟩
        have hr1 := hr1.below hB7
        have hr2 := hr2.below hB7
        have hr3 := hr3.below hB7
        have hr4 := hr4.below hB7
        have hr5 := hr5.below hB7
        have hr6 := hr6.below hB7
        have hR7 := hR6.below hB7
        have D8 := rsep_any xs A c n w7 hR7
        rw [← hpp] at D8
        simp only [] at D8
        have H8 := hide D8
        clear D8 H7 hR6
        go_wp2_with fail
        refine H8.out.mono ?_
        rintro e w8 ⟨rfl, hB8⟩
        have hr1 := (hr1.below hB8).rd
        have hr2 := (hr2.below hB8).rd
        have hr3 := (hr3.below hB8).rd
        have hr4 := (hr4.below hB8).rd
        have hr5 := (hr5.below hB8).rd
        have hr6 := (hr6.below hB8).rd
        have hBd := below2 (below2 hBc hB7) hB8
        clear hBc hB7 hB8 H8 hR7 hpp HR
        have E1 := hide (slEq_same r1 v1 v2 w8 hr1 hr2 hl1)
        go_wp2_with fail
        refine E1.out.mono ?_
        rintro e w9 ⟨rfl, q1, rfl⟩
        have E2 := hide (slEq_same r3 v3 v4 (w8.drewN q1) hr3 hr4 hl2)
        clear E1 hr1 hr2
        go_wp2_with fail
        refine E2.out.mono ?_
        rintro e w9 ⟨rfl, q2, rfl⟩
        have E3 := hide (slEq_same r5 v5 v6 (w8.drewN (q1 + q2)) hr5 hr6 hl3)
        clear E2 hr3 hr4
        go_wp2_with fail
        refine E3.out.mono ?_
        rintro e w9 ⟨rfl, q3, rfl⟩
        have hBe := belowN hBd (q1 + q2 + q3)
        clear E3 hr5 hr6 hBd
        go_wp2_with (go_at_call 24; refine (awake47_any _).mono ?_; rintro e w10 ⟨rfl, hB10⟩)
        go_ret
        exact ⟨rfl, below2 hBe hB10⟩)
end Go.Proofs.Ytmajalpmbppkpaa
