import Derived.Test.YtpppbkdbpbpinaaGreatDoorG5
import Derived.Test.YtpppbkdbpbpinaaGreatDoorG8
import Derived.Test.YtpppbkdbpbpinaaGreatDoorG4
set_option linter.unusedSimpArgs false
set_option linter.unusedVariables false
/- Arguments opened: a slice of strings. -/
set_option linter.unusedVariables false
namespace Go.Proofs.YtpppbkdbpbpinaaGreatDoor.Open44
open Go.ChangeShapes Go.WideShapes Go.ChangeAt Go.RowKit Go.Deep Go.Joins
section
variable {H : Type} {enc : TypeId × Value → H} {w : World} {base : Nat} {spare : Nat → Bool} {held : Bool}
theorem cell_strs {n : Nat} {cs : List Value} {y : DataW H × List MemPlace} (h : DataW.trod enc Tryz.prog w base spare held n 25 cs = some y) :
    ∃ A c, ∃ ss : List ByteArray, cs = [.slice A ss.length c] ∧ RowT w A ss ∧ ss.length ≤ maxLen := by
  rcases open_strings Tryz.underlying25 Tryz.underlying9 (by kernel_rfl) h with ⟨rfl, _⟩ | ⟨a, len, cap, zs, rfl, _, hl, hm, hz, _, hcell, _⟩
  · exact ⟨none, 0, [], rfl, fun hp => absurd hp (by simp), Nat.zero_le _⟩
  · have hle : len ≤ zs.length := by rw [hz]; split <;> omega
    have hlen : (zs.take len).length = len := by rw [List.length_take]; omega
    refine ⟨some a, cap, zs.take len, by rw [hlen], fun hp => ?_, by rw [hlen]; omega⟩
    rw [hlen] at hp
    obtain ⟨b, o, sp⟩ := a
    have h0 := hcell 0 (by omega)
    obtain rfl : sp = none := by simpa [Addr.add] using World.cell?_spot h0
    rw [add_at] at h0
    refine ⟨b, o, rfl, World.block_lt_of_cell? w _ h0, fun k hk => ?_⟩
    have hk' : k < zs.length := by rw [hlen] at hk; omega
    have := hcell k hk'
    rw [add_at] at this
    rw [this, List.getElem_take, List.getD_eq_getElem?_getD, List.getElem?_eq_getElem hk']
    rfl
end
end Go.Proofs.YtpppbkdbpbpinaaGreatDoor.Open44

/- grooveref44.image, reset.step: where a letter leads from a set; the set of all states; what is too large. -/
set_option linter.unusedVariables false
namespace Go.Proofs.YtpppbkdbpbpinaaGreatDoor
open Go.RowKit
theorem orI : ∀ a, a < 64 → ∀ b, b < 64 → bits .or .i64 ((a : Nat) : Int) ((b : Nat) : Int) = ((a ||| b : Nat) : Int) := by decide +kernel
theorem shlI : ∀ k, k < 7 → wrap64 (2 ^ k) = ((2 ^ k : Nat) : Int) := by decide +kernel
theorem pow6 : ∀ k, k < 6 → 2 ^ k < 64 := by decide

theorem imgK_skip {rows : List (List Int)} {S c : Nat} : ∀ (t k : Nat), k ≤ t → (∀ j, j < t → k ≤ j → S.testBit j = false) → imgK rows S c t = imgK rows S c k
  | 0, k, h, _ => by obtain rfl : k = 0 := by omega
                     rfl
  | t + 1, k, h, hn => by
    rcases Nat.lt_or_ge t k with h1 | h1
    · obtain rfl : k = t + 1 := by omega
      rfl
    · rw [← imgK_skip t k h1 fun j hj hk => hn j (by omega) hk, show imgK rows S c (t + 1) = if S.testBit t then imgK rows S c t ||| 2 ^ nx rows t c else imgK rows S c t from rfl, hn t (by omega) h1]
      rfl
theorem imgK_yes {rows : List (List Int)} {S c k : Nat} (h : S.testBit k = true) : imgK rows S c (k + 1) = imgK rows S c k ||| 2 ^ nx rows k c := by
  rw [show imgK rows S c (k + 1) = if S.testBit k then imgK rows S c k ||| 2 ^ nx rows k c else imgK rows S c k from rfl, h]; rfl
theorem imgK_no {rows : List (List Int)} {S c k : Nat} (h : S.testBit k = false) : imgK rows S c (k + 1) = imgK rows S c k := by
  rw [show imgK rows S c (k + 1) = if S.testBit k then imgK rows S c k ||| 2 ^ nx rows k c else imgK rows S c k from rfl, h]; rfl
/-- an automaton of few states that lies -/
structure Aut (rows : List (List Int)) (L : Nat) : Prop where
  ok : chkRows rows.length L rows = 0
  n1 : 1 ≤ rows.length
  n6 : rows.length ≤ 6
  l1 : 1 ≤ L
  l3 : L ≤ 4
theorem Aut.len {rows : List (List Int)} {L : Nat} (h : Aut rows L) {s : Nat} (hs : s < rows.length) : rows[s].length = L := (chkRow_of (chkRows_all h.ok rows[s] (List.getElem_mem _))).1
theorem Aut.cell {rows : List (List Int)} {L : Nat} (h : Aut rows L) {s c : Nat} (hs : s < rows.length) (hc : c < rows[s].length) : rows[s][c] = (nx rows s c : Int) := by
  have hr := (chkRow_of (chkRows_all h.ok rows[s] (List.getElem_mem _))).2 _ (List.getElem_mem hc)
  unfold nx
  rw [show rows.getD s [] = rows[s] by rw [List.getD_eq_getElem?_getD, List.getElem?_eq_getElem hs]; rfl, List.getD_eq_getElem?_getD, List.getElem?_eq_getElem hc, Option.getD_some]
  omega
theorem Aut.pow {rows : List (List Int)} {L : Nat} (h : Aut rows L) : 2 ^ rows.length ≤ 64 := Nat.le_trans (Nat.pow_le_pow_right (by decide) h.n6) (by decide)
theorem Aut.imgK_lt {rows : List (List Int)} {L c : Nat} (h : Aut rows L) (hc : c < L) (S : Nat) {k : Nat} (hk : k ≤ rows.length) : imgK rows S c k < 2 ^ rows.length := YtpppbkdbpbpinaaGreatDoor.imgK_lt rfl h.ok hc S k hk
theorem Aut.img_lt {rows : List (List Int)} {L c : Nat} (h : Aut rows L) (hc : c < L) (S : Nat) : img rows S c < 2 ^ rows.length := h.imgK_lt hc S (Nat.le_refl _)
theorem Aut.nx_lt {rows : List (List Int)} {L s c : Nat} (h : Aut rows L) (hs : s < rows.length) (hc : c < L) : nx rows s c < rows.length := YtpppbkdbpbpinaaGreatDoor.nx_lt rfl h.ok hs hc
set_option maxRecDepth 100000 in
set_option maxHeartbeats 4000000 in
theorem zimage_any (rows : List (List Int)) (L S c : Nat) (A : Option Addr) (cc : Nat) (w : World) (hA : Aut rows L) (hc : c < L) (hS : S < 64) (hR : RowD w A rows) :
    Calls Tryz.prog 58 #[.agg #[.int .i64 L, .slice A rows.length cc], .int .i64 S, .int .i64 c] w fun e w' => e = .returned (.int .i64 (img rows S c)) ∧ Below w.heap.size w w' := by
  have hB0 : Below w.heap.size w (w.alloc (Obj.cells #[.int .i64 L, .slice A rows.length cc] 24)) := (Below.refl _ w).alloc (Nat.le_refl _) _
  have HR := hide (hR.below hB0)
  obtain ⟨B, hBB⟩ : ∃ B, w.heap.size = B := ⟨_, rfl⟩
  have k1 : (w.alloc (Obj.cells #[.int .i64 L, .slice A rows.length cc] 24)).cell? ⟨B, 1, none⟩ = some (.slice A rows.length cc) := by
    rw [cell_of_row _ B 1 _ _ _ (by rw [← hBB]; exact heap_alloc_new w _)]; rfl
  have hn6 := hA.n6
  have HA := hide hA
  clear hA hR
  go_enter Tryz.func58, Tryz.ntmps58
  go_wp2
  generalize w.alloc (Obj.cells #[.int .i64 L, .slice A rows.length cc] 24) = W1 at hB0 HR k1 ⊢
  go_loopw [7, 8] (fun ov iv wr => ∃ s : Nat, iv = .int .i64 s ∧ s ≤ rows.length ∧ ov = .int .i64 (imgK rows S c s) ∧ wr = W1) (fun _ iv _ => rows.length - (intOf iv).toNat)
  case atStart => exact ⟨0, rfl, Nat.zero_le _, rfl, rfl⟩
  case round =>
    obtain ⟨s, rfl, hs, rfl, rfl⟩ := hrel
    by_cases hlt : s < rows.length
    · have HH := hide (zhas_any S s wr hS (by omega))
      cases hb : S.testBit s with
      | false =>
        rw [hb] at HH
        have HN := hide (imgK_no (rows := rows) (c := c) hb)
        clear hb
        go_wp2_with (go_at_call 122; refine HH.out.mono ?_; rintro e w' ⟨rfl, rfl⟩)
        go_roundw
        case rel => exact ⟨s + 1, by go_num, hlt, by rw [HN.out], by first | exact trivial | rfl⟩
        case measure => simp [intOf]; omega
      | true =>
        rw [hb] at HH
        have HN := hide (imgK_yes (rows := rows) (c := c) hb)
        clear hb
        obtain ⟨b, o, rfl, hbl, hcell⟩ := HR.out (by omega)
        obtain ⟨D, cD, hcs, hrow⟩ := hcell s hlt
        obtain ⟨r, hr⟩ : ∃ r, r = rows[s] := ⟨_, rfl⟩
        rw [← hr] at hcs hrow
        have hlen : r.length = L := by rw [hr]; exact HA.out.len hlt
        obtain ⟨bD, oD, rfl, hbD, hcD⟩ := hrow (by omega)
        have hcx := hcD c (by omega)
        have hcr : c < r.length := by omega
        have hx : r[c] = (nx rows s c : Int) := by subst hr; exact HA.out.cell hlt hcr
        rw [hx] at hcx
        have hnx := HA.out.nx_lt hlt hc
        obtain ⟨x, hxx⟩ : ∃ x, nx rows s c = x := ⟨_, rfl⟩
        rw [hxx] at hcx hnx HN
        have hs0 : (0 : Int) ≤ (s : Int) := by omega
        have hs1 : (s : Int) < (rows.length : Int) := by omega
        have hc0 : (0 : Int) ≤ (c : Int) := by omega
        have hc1 : (c : Int) < (r.length : Int) := by omega
        clear hcell hr hrow hcD hx hxx
        go_wp2_with (go_at_call 122; refine HH.out.mono ?_; rintro e w' ⟨rfl, rfl⟩)
        go_roundw
        case rel =>
          refine ⟨s + 1, by go_num, hlt, ?_, by first | exact trivial | rfl⟩
          have h6 := Nat.lt_of_lt_of_le (HA.out.imgK_lt hc S hs) HA.out.pow
          rw [shlI x (by omega), orI _ h6 _ (pow6 x (by omega)), HN.out]
        case measure => simp [intOf]; omega
    · obtain rfl : s = rows.length := by omega
      go_wp2
      go_ret
      exact ⟨rfl, hB0⟩
/-- the states of a set from one on -/
def upS (S k : Nat) : Nat := S / 2 ^ k * 2 ^ k
theorem low_1 : ∀ S, S < 64 → ∀ k, k < 7 → 0 < upS S k → k ≤ tz (upS S k) ∧ S.testBit (tz (upS S k)) = true ∧ tz (upS S k) < 6 := by decide +kernel
theorem low_2 : ∀ S, S < 64 → ∀ k, k < 7 → 0 < upS S k → ∀ j, j < tz (upS S k) → k ≤ j → S.testBit j = false := by decide +kernel
theorem low_3 : ∀ S, S < 64 → ∀ k, k < 7 → 0 < upS S k → bits .and .u64 ((upS S k : Nat) : Int) (((upS S k : Nat) : Int) - 1) = ((upS S (tz (upS S k) + 1) : Nat) : Int) := by decide +kernel
theorem low_4 : ∀ S, S < 64 → ∀ k, k < 7 → 0 < upS S k → upS S (tz (upS S k) + 1) < upS S k := by decide +kernel
theorem low_end : ∀ S, S < 64 → ∀ k, k < 7 → upS S k = 0 → ∀ j, j < 6 → k ≤ j → S.testBit j = false := by decide +kernel
theorem low_lt {S k : Nat} (h : S < 64) : upS S k < 64 := Nat.lt_of_le_of_lt (Nat.div_mul_le_self S (2 ^ k)) h
set_option maxRecDepth 100000 in
set_option maxHeartbeats 4000000 in
theorem zstep_any (rows : List (List Int)) (L S c : Nat) (A : Option Addr) (cc : Nat) (w : World) (hA : Aut rows L) (hc : c < L) (hS : S < 2 ^ rows.length) (hR : RowD w A rows) (hT : TabZ w) :
    Calls Tryz.prog 118 #[.agg #[.int .i64 L, .slice A rows.length cc], .int .i64 S, .int .i64 c] w fun e w' => e = .returned (.int .i64 (img rows S c)) ∧ Below w.heap.size w w' := by
  have hB0 : Below w.heap.size w (w.alloc (Obj.cells #[.int .i64 L, .slice A rows.length cc] 24)) := (Below.refl _ w).alloc (Nat.le_refl _) _
  have HR := hide (hR.below hB0)
  have HT := hide (hT.below hB0)
  obtain ⟨B, hBB⟩ : ∃ B, w.heap.size = B := ⟨_, rfl⟩
  have k1 : (w.alloc (Obj.cells #[.int .i64 L, .slice A rows.length cc] 24)).cell? ⟨B, 1, none⟩ = some (.slice A rows.length cc) := by
    rw [cell_of_row _ B 1 _ _ _ (by rw [← hBB]; exact heap_alloc_new w _)]; rfl
  have hn6 := hA.n6
  have h64 : S < 64 := Nat.lt_of_lt_of_le hS hA.pow
  have HA := hide hA
  have HS := hide hS
  clear hA hR hT hS
  go_enter Tryz.func118, Tryz.ntmps118
  go_wp2
  generalize w.alloc (Obj.cells #[.int .i64 L, .slice A rows.length cc] 24) = W1 at hB0 HR HT k1 ⊢
  go_loopw [7, 8] (fun ov iv wr => ∃ k : Nat, iv = .int .u64 (upS S k : Nat) ∧ k ≤ rows.length ∧ ov = .int .i64 (imgK rows S c k) ∧ ∃ q, wr = W1.drewN q) (fun _ iv _ => (intOf iv).toNat)
  case atStart => exact ⟨0, by simp [upS], Nat.zero_le _, rfl, 0, rfl⟩
  case round =>
    obtain ⟨k, rfl, hk, rfl, q, rfl⟩ := hrel
    obtain ⟨l, hl⟩ : ∃ l, upS S k = l := ⟨_, rfl⟩
    have hl64 : l < 64 := by rw [← hl]; exact low_lt h64
    by_cases hpos : 0 < l
    · obtain ⟨f1, f2, f4⟩ := low_1 S h64 k (by omega) (by omega)
      have f3 := low_2 S h64 k (by omega) (by omega)
      have f5 := low_3 S h64 k (by omega) (by omega)
      have f6 := low_4 S h64 k (by omega) (by omega)
      rw [hl] at f1 f2 f3 f4 f5 f6 ⊢
      obtain ⟨s, hs⟩ : ∃ s, tz l = s := ⟨_, rfl⟩
      have HZ : ∀ m, Calls Tryz.prog 192 #[.int .u64 l] (W1.drewN m) fun e w' => e = .returned (.int .i64 (tz l)) ∧ W1.drewN m = w' := fun m => (bTZ_any l (W1.drewN m) hpos hl64 HT.out).mono fun _ _ h => ⟨h.1, h.2.symm⟩
      rw [hs] at f1 f2 f3 f4 f5 f6 HZ
      have hlt : s < rows.length := by
        rcases Nat.lt_or_ge s rows.length with h | h
        · exact h
        · have := Nat.ge_two_pow_of_testBit f2
          have h2 := Nat.pow_le_pow_right (show 0 < 2 by decide) h
          have := HS.out
          omega
      have HN := hide (show imgK rows S c (s + 1) = imgK rows S c k ||| 2 ^ nx rows s c by rw [imgK_yes f2, imgK_skip s k f1 f3])
      obtain ⟨b, o, rfl, hbl, hcell⟩ := HR.out (by omega)
      obtain ⟨D, cD, hcs, hrow⟩ := hcell s hlt
      obtain ⟨r, hr⟩ : ∃ r, r = rows[s] := ⟨_, rfl⟩
      rw [← hr] at hcs hrow
      have hlen : r.length = L := by rw [hr]; exact HA.out.len hlt
      obtain ⟨bD, oD, rfl, hbD, hcD⟩ := hrow (by omega)
      have hcx := hcD c (by omega)
      have hcr : c < r.length := by omega
      have hx : r[c] = (nx rows s c : Int) := by subst hr; exact HA.out.cell hlt hcr
      rw [hx] at hcx
      have hnx := HA.out.nx_lt hlt hc
      obtain ⟨x, hxx⟩ : ∃ x, nx rows s c = x := ⟨_, rfl⟩
      rw [hxx] at hcx hnx HN
      have hs0 : (0 : Int) ≤ (s : Int) := by omega
      have hs1 : (s : Int) < (rows.length : Int) := by omega
      have hc0 : (0 : Int) ≤ (c : Int) := by omega
      have hc1 : (c : Int) < (r.length : Int) := by omega
      have HL := hide hl
      have HZ2 := hide HZ
      have F5 := hide f5
      have F6 := hide f6
      clear hcell hr hrow hcD hx hxx hl HZ hs f1 f2 f3 f5 f6
      go_wp2
      go_quiet ((go_at_call 192; exact quiet_add_left (HZ2.out _)))
      go_wp2_with fail
      go_roundw
      case rel =>
        refine ⟨s + 1, ?_, hlt, ?_, _, by first | rw [World.drewN_add] | rfl⟩
        · rw [← F5.out]
        · have h6 := Nat.lt_of_lt_of_le (HA.out.imgK_lt hc S hk) HA.out.pow
          rw [shlI x (by omega), orI _ h6 _ (pow6 x (by omega)), HN.out]
      case measure => rw [F5.out]; simp only [intOf]; have := F6.out; omega
    · have HE := hide (imgK_skip (rows := rows) (S := S) (c := c) rows.length k hk fun j hj hkj => low_end S h64 k (by omega) (by omega) j (by omega) hkj)
      rw [hl]
      clear hl
      go_wp2
      go_ret
      exact ⟨by rw [show img rows S c = imgK rows S c rows.length from rfl, HE.out]; rfl, belowN hB0 q⟩
end Go.Proofs.YtpppbkdbpbpinaaGreatDoor
