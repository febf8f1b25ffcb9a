/- The set of all states; what is too large; where a word leads (both sides). -/
import Derived.Test.YtmokccidpnpimaaDoorImg
import Derived.Deep.RegionHeld3
set_option linter.unusedVariables false
namespace Go.Proofs.YtmokccidpnpimaaDoor
open Go.RowKit
theorem allI : ∀ n, n < 17 → wrap64 (2 ^ n) - 1 = ((2 ^ n - 1 : Nat) : Int) := by decide +kernel
theorem allR : ∀ n, n < 17 → 0 ≤ wrap64 (2 ^ n) ∧ wrap64 (2 ^ n) ≤ 65536 := by decide +kernel
set_option maxRecDepth 100000 in
theorem zall_any (rows : List (List Int)) (L : Int) (A : Option Addr) (cc : Nat) (w : World) (hn : rows.length < 17) :
    Calls Tryd.prog 37 #[.agg #[.int .i64 L, .slice A rows.length cc]] w fun e w' => e = .returned (.int .i64 (2 ^ rows.length - 1 : Nat)) ∧ Below w.heap.size w w' := by
  have hB0 : Below w.heap.size w (w.alloc (Obj.cells #[.int .i64 L, .slice A rows.length cc] 24)) := (Below.refl _ w).alloc (Nat.le_refl _) _
  have h1 := hide (allI _ hn)
  obtain ⟨h2, h3⟩ := allR _ hn
  go_enter Tryd.func37, Tryd.ntmps37
  go_wp2
  go_ret
  exact ⟨by rw [← h1.out]; rfl, hB0⟩
set_option maxRecDepth 100000 in
theorem zfull_any (rows : List (List Int)) (L : Int) (A : Option Addr) (cc : Nat) (w : World) (hn : rows.length < 17) :
    Calls Tryd.prog 41 #[.agg #[.int .i64 L, .slice A rows.length cc]] w fun e w' => e = .returned (.int .i64 (2 ^ rows.length - 1 : Nat)) ∧ Below w.heap.size w w' := by
  have hB0 : Below w.heap.size w (w.alloc (Obj.cells #[.int .i64 L, .slice A rows.length cc] 24)) := (Below.refl _ w).alloc (Nat.le_refl _) _
  have h1 := hide (allI _ hn)
  obtain ⟨h2, h3⟩ := allR _ hn
  go_enter Tryd.func41, Tryd.ntmps41
  go_wp2
  go_ret
  exact ⟨by rw [← h1.out]; rfl, hB0⟩
/-- what is larger than the statements examine -/
def grt (L : Int) (n : Nat) : Bool := (decide (6 < n) && decide (n ≤ 16)) || decide (18 < n) || (decide (3 < L) && decide (L ≤ 8))
set_option maxRecDepth 100000 in
set_option maxHeartbeats 4000000 in
theorem great44_any (n : Nat) (L : Int) (A : Option Addr) (cc : Nat) (w : World) :
    Calls Tryd.prog 11 #[.agg #[.int .i64 L, .slice A n cc]] w fun e w' => e = .returned (.bool (grt L n)) ∧ Below w.heap.size w w' := by
  have hB0 : Below w.heap.size w (w.alloc (Obj.cells #[.int .i64 L, .slice A n cc] 24)) := (Below.refl _ w).alloc (Nat.le_refl _) _
  have e1 : decide ((6 : Int) < (n : Int)) = decide (6 < n) := by simp only [decide_eq_decide]; omega
  have e2 : decide ((n : Int) ≤ 16) = decide (n ≤ 16) := by simp only [decide_eq_decide]; omega
  have e3 : decide ((18 : Int) < (n : Int)) = decide (18 < n) := by simp only [decide_eq_decide]; omega
  unfold grt
  rw [← e1, ← e2, ← e3]
  cases h1 : decide ((6 : Int) < (n : Int)) <;> cases h2 : decide ((n : Int) ≤ 16) <;> cases h3 : decide ((18 : Int) < (n : Int)) <;> cases h4 : decide (3 < L) <;> cases h5 : decide (L ≤ 8) <;>
  ( clear e1 e2 e3
    go_enter Tryd.func11, Tryd.ntmps11
    go_wp2
    go_ret
    exact ⟨rfl, hB0⟩)
/-- where a word leads from a set -/
def led (rows : List (List Int)) (S : Nat) (l : List UInt8) : Nat := l.foldl (fun S b => img rows S (dig b).toNat) S
theorem led_snoc (rows : List (List Int)) (S : Nat) (l : List UInt8) (b : UInt8) : led rows S (l ++ [b]) = img rows (led rows S l) (dig b).toNat := by unfold led; rw [List.foldl_append]; rfl
theorem led_append (rows : List (List Int)) (S : Nat) (l m : List UInt8) : led rows S (l ++ m) = led rows (led rows S l) m := by unfold led; rw [List.foldl_append]
/-- a word over the letters -/
def OkW (L : Nat) (l : List UInt8) : Prop := ∀ b ∈ l, 0 ≤ dig b ∧ dig b < L
theorem Aut.led_lt {rows : List (List Int)} {L S : Nat} (h : Aut rows L) (hS : S < 2 ^ rows.length) {l : List UInt8} (hl : OkW L l) : led rows S l < 2 ^ rows.length := by
  induction l generalizing S with
  | nil => exact hS
  | cons b l ih =>
    have := hl b (List.mem_cons_self ..)
    exact ih (h.img_lt (c := (dig b).toNat) (by omega) S) fun x hx => hl x (List.mem_cons_of_mem _ hx)
theorem idxB (c : UInt8) (W : World) : Calls Tryd.prog 65 #[.string ⟨#[48, 49, 50, 51, 52, 53, 54, 55, 56, 57, 97, 98, 99, 100, 101, 102]⟩, .int .u8 c.toNat] W fun e w' => e = .returned (.int .i64 (dig c)) ∧ W = w' := by
  refine (strings_IndexByte _ _ _).mono ?_
  rintro e w' ⟨rfl, h⟩
  refine ⟨?_, h⟩
  have := index_lets16 ⟨c.toNat, c.toNat_lt⟩
  simp only [UInt8.ofNat_toNat] at this
  rw [← this, Int.toNat_natCast]
  exact ret_int (by simp [lets])
set_option maxHeartbeats 400000 in
theorem zletter_any (c : UInt8) (w : World) (h0 : 0 ≤ dig c) :
    Calls Tryd.prog 68 #[.int .u8 c.toNat] w fun e w' => e = .returned (.int .i64 (dig c)) ∧ w = w' := by
  have hr := dig_range ⟨c.toNat, c.toNat_lt⟩
  simp only [UInt8.ofNat_toNat] at hr
  go_enter Tryd.func68, Tryd.ntmps68
  go_wp2
  go_loop [3] (fun i => ∃ k : Nat, k ≤ 16 ∧ i = .int .i64 k ∧ k ≤ dig c) (fun i => 16 - (intOf i).toNat)
  case atStart => exact ⟨0, Nat.zero_le _, rfl, by omega⟩
  case round =>
    obtain ⟨k, hk, rfl, hd⟩ := hrel
    by_cases hlt : k < 16
    · have ha := lets_at k hlt c
      by_cases hc : dig c = k
      · rw [decide_eq_true hc] at ha
        have HC := hide hc
        clear hc hd
        go_wp2
        go_ret
        exact ⟨ret_int HC.out.symm, rfl⟩
      · rw [decide_eq_false hc] at ha
        go_wp2
        exact ⟨⟨k + 1, by omega, by go_num, by omega⟩, by simp [intOf]; omega⟩
    · omega
set_option maxRecDepth 100000 in
set_option maxHeartbeats 4000000 in
theorem zlead_any (rows : List (List Int)) (L S : Nat) (s : ByteArray) (A : Option Addr) (cc : Nat) (w : World) (hA : Aut rows L) (hS : S < 2 ^ rows.length) (hs : OkW L s.data.toList) (hb : s.size ≤ 9223372036854775807) (hR : RowD w A rows) (hT : TabZ w) :
    Calls Tryd.prog 49 #[.agg #[.int .i64 L, .slice A rows.length cc], .int .i64 S, .string s] w fun e w' => e = .returned (.int .i64 (led rows S s.data.toList)) ∧ Below w.heap.size w w' := by
  have hB0 : Below w.heap.size w (w.alloc (Obj.cells #[.int .i64 L, .slice A rows.length cc] 24)) := (Below.refl _ w).alloc (Nat.le_refl _) _
  have HR := hide (hR.below hB0)
  have HT := hide (hT.below hB0)
  obtain ⟨B, hBB⟩ : ∃ B, w.heap.size = B := ⟨_, rfl⟩
  have k0 : (w.alloc (Obj.cells #[.int .i64 L, .slice A rows.length cc] 24)).cell? ⟨B, 0, none⟩ = some (.int .i64 L) := by
    rw [cell_of_row _ B 0 _ _ _ (by rw [← hBB]; exact heap_alloc_new w _)]; rfl
  have k1 : (w.alloc (Obj.cells #[.int .i64 L, .slice A rows.length cc] 24)).cell? ⟨B, 1, none⟩ = some (.slice A rows.length cc) := by
    rw [cell_of_row _ B 1 _ _ _ (by rw [← hBB]; exact heap_alloc_new w _)]; rfl
  have hsz : (w.alloc (Obj.cells #[.int .i64 L, .slice A rows.length cc] 24)).heap.size = B + 1 := by rw [← hBB]; simp
  have HA := hide hA
  have HS := hide hS
  have HW := hide hs
  clear hA hR hT hS hs
  go_enter Tryd.func49, Tryd.ntmps49
  go_wp2
  generalize w.alloc (Obj.cells #[.int .i64 L, .slice A rows.length cc] 24) = W1 at hB0 HR HT k0 k1 hsz ⊢
  have lB : B < W1.heap.size := by omega
  go_loopw [1, 10] (fun sv iv wr => ∃ i : Nat, iv = .int .i64 i ∧ i ≤ s.size ∧ sv = .int .i64 (led rows S (s.data.toList.take i)) ∧ Below W1.heap.size W1 wr) (fun _ iv _ => s.size - (intOf iv).toNat)
  case atStart => exact ⟨0, rfl, Nat.zero_le _, rfl, Below.refl _ _⟩
  case round =>
    obtain ⟨i, rfl, hi, rfl, hAcc⟩ := hrel
    by_cases hlt : i < s.size
    · have hd := HW.out _ (mem_bytes s i hlt)
      have HN := hide (show led rows S (s.data.toList.take (i + 1)) = img rows (led rows S (s.data.toList.take i)) (dig s[i]).toNat by rw [take_snoc s i hlt, led_snoc])
      have hT2 : led rows S (s.data.toList.take i) < 2 ^ rows.length := HA.out.led_lt HS.out fun b hb => HW.out b (List.mem_of_mem_take hb)
      obtain ⟨T, hTT⟩ : ∃ T, led rows S (s.data.toList.take i) = T := ⟨_, rfl⟩
      rw [hTT] at HN hT2 ⊢
      obtain ⟨c, hc⟩ := Int.eq_ofNat_of_zero_le hd.1
      have HI : Hid (∀ W, Calls Tryd.prog 65 #[.string ⟨#[48, 49, 50, 51, 52, 53, 54, 55, 56, 57, 97, 98, 99, 100, 101, 102]⟩, .int .u8 s[i].toNat] W fun e w' => e = .returned (.int .i64 (c : Int)) ∧ W = w') := hide fun W => by
        have := idxB s[i] W
        rw [hc] at this
        exact this
      rw [hc, Int.toNat_natCast] at HN
      have hcL : c < L := by omega
      clear hd hc hTT
      have hAcc0 := hAcc
      have hAcc1 : Below W1.heap.size W1 wr.drew := hAcc.drew
      have HST : Hid (∀ W, Below W1.heap.size W1 W → Calls Tryd.prog 57 #[.agg #[.int .i64 L, .slice A rows.length cc], .int .i64 T, .int .i64 c] W fun e w' => e = .returned (.int .i64 (img rows T c)) ∧ Below W.heap.size W w') :=
        hide fun W hW => zstep_any rows L T c A cc W HA.out hcL hT2 (HR.out.below hW) (HT.out.below hW)
      have m0 : wr.drew.cell? ⟨B, 0, none⟩ = some (.int .i64 L) := (hAcc1.cell (p := ⟨B, 0, none⟩) lB).trans k0
      have m1 : wr.drew.cell? ⟨B, 1, none⟩ = some (.slice A rows.length cc) := (hAcc1.cell (p := ⟨B, 1, none⟩) lB).trans k1
      go_wp2_with fail
      go_region_held3 (fun W => W.cell? ⟨B, 0, none⟩ = some (.int .i64 L) ∧ W.cell? ⟨B, 1, none⟩ = some (.slice A rows.length cc))
        (first | with_reducible exact ⟨m0, m1⟩)
        (first
          | (go_at_call 65; refine (HI.out _).mono ?_; rintro e w2 ⟨rfl, rfl⟩)
          | (go_at_call 57; refine (HST.out _ hAcc1).mono ?_; rintro e w2 ⟨rfl, hB3⟩; replace hAcc := hAcc1.trans (hB3.mono (hAcc1.size)); replace m0 := (hAcc.cell (p := ⟨B, 0, none⟩) lB).trans k0; replace m1 := (hAcc.cell (p := ⟨B, 1, none⟩) lB).trans k1))
      go_wp2_with fail
      go_roundw
      case rel => exact ⟨i + 1, by go_num, hlt, by rw [HN.out], hAcc⟩
      case measure => simp [intOf]; omega
    · obtain rfl : i = s.size := by omega
      go_wp2
      go_ret
      exact ⟨by rw [show s.data.toList.take s.size = s.data.toList from List.take_of_length_le (by simp)]; rfl, hBB ▸ hB0.trans (hAcc.mono (by omega))⟩
set_option maxRecDepth 100000 in
set_option maxHeartbeats 4000000 in
theorem zalong_any (rows : List (List Int)) (L S : Nat) (s : ByteArray) (A : Option Addr) (cc : Nat) (w : World) (hA : Aut rows L) (hS : S < 2 ^ rows.length) (hs : OkW L s.data.toList) (hb : s.size ≤ 9223372036854775807) (hR : RowD w A rows) (hT : TabZ w) :
    Calls Tryd.prog 51 #[.agg #[.int .i64 L, .slice A rows.length cc], .int .i64 S, .string s] w fun e w' => e = .returned (.int .i64 (led rows S s.data.toList)) ∧ Below w.heap.size w w' := by
  have hB0 : Below w.heap.size w (w.alloc (Obj.cells #[.int .i64 L, .slice A rows.length cc] 24)) := (Below.refl _ w).alloc (Nat.le_refl _) _
  have HR := hide (hR.below hB0)
  have HT := hide (hT.below hB0)
  obtain ⟨B, hBB⟩ : ∃ B, w.heap.size = B := ⟨_, rfl⟩
  have k0 : (w.alloc (Obj.cells #[.int .i64 L, .slice A rows.length cc] 24)).cell? ⟨B, 0, none⟩ = some (.int .i64 L) := by
    rw [cell_of_row _ B 0 _ _ _ (by rw [← hBB]; exact heap_alloc_new w _)]; rfl
  have k1 : (w.alloc (Obj.cells #[.int .i64 L, .slice A rows.length cc] 24)).cell? ⟨B, 1, none⟩ = some (.slice A rows.length cc) := by
    rw [cell_of_row _ B 1 _ _ _ (by rw [← hBB]; exact heap_alloc_new w _)]; rfl
  have hsz : (w.alloc (Obj.cells #[.int .i64 L, .slice A rows.length cc] 24)).heap.size = B + 1 := by rw [← hBB]; simp
  have HA := hide hA
  have HS := hide hS
  have HW := hide hs
  clear hA hR hT hS hs
  go_enter Tryd.func51, Tryd.ntmps51
  go_wp2
  generalize w.alloc (Obj.cells #[.int .i64 L, .slice A rows.length cc] 24) = W1 at hB0 HR HT k0 k1 hsz ⊢
  have lB : B < W1.heap.size := by omega
  go_loopw [1, 7] (fun sv iv wr => ∃ i : Nat, iv = .int .i64 i ∧ i ≤ s.size ∧ sv = .int .i64 (led rows S (s.data.toList.take i)) ∧ Below W1.heap.size W1 wr) (fun _ iv _ => s.size - (intOf iv).toNat)
  case atStart => exact ⟨0, rfl, Nat.zero_le _, rfl, Below.refl _ _⟩
  case round =>
    obtain ⟨i, rfl, hi, rfl, hAcc⟩ := hrel
    by_cases hlt : i < s.size
    · have hd := HW.out _ (mem_bytes s i hlt)
      have HN := hide (show led rows S (s.data.toList.take (i + 1)) = img rows (led rows S (s.data.toList.take i)) (dig s[i]).toNat by rw [take_snoc s i hlt, led_snoc])
      have hT2 : led rows S (s.data.toList.take i) < 2 ^ rows.length := HA.out.led_lt HS.out fun b hb => HW.out b (List.mem_of_mem_take hb)
      obtain ⟨T, hTT⟩ : ∃ T, led rows S (s.data.toList.take i) = T := ⟨_, rfl⟩
      rw [hTT] at HN hT2 ⊢
      obtain ⟨c, hc⟩ := Int.eq_ofNat_of_zero_le hd.1
      have HI : Hid (∀ W, Calls Tryd.prog 68 #[.int .u8 s[i].toNat] W fun e w' => e = .returned (.int .i64 (c : Int)) ∧ W = w') := hide fun W => by
        have := zletter_any s[i] W hd.1
        rw [hc] at this
        exact this
      rw [hc, Int.toNat_natCast] at HN
      have hcL : c < L := by omega
      clear hd hc hTT
      have hAcc0 := hAcc
      have hAcc1 : Below W1.heap.size W1 wr.drew := hAcc.drew
      have HST : Hid (∀ W, Below W1.heap.size W1 W → Calls Tryd.prog 42 #[.agg #[.int .i64 L, .slice A rows.length cc], .int .i64 T, .int .i64 c] W fun e w' => e = .returned (.int .i64 (img rows T c)) ∧ Below W.heap.size W w') :=
        hide fun W hW => zimage_any rows L T c A cc W HA.out hcL (Nat.lt_of_lt_of_le hT2 HA.out.pow) (HR.out.below hW)
      have m0 : wr.drew.cell? ⟨B, 0, none⟩ = some (.int .i64 L) := (hAcc1.cell (p := ⟨B, 0, none⟩) lB).trans k0
      have m1 : wr.drew.cell? ⟨B, 1, none⟩ = some (.slice A rows.length cc) := (hAcc1.cell (p := ⟨B, 1, none⟩) lB).trans k1
      go_wp2_with fail
      go_region_held3 (fun W => W.cell? ⟨B, 0, none⟩ = some (.int .i64 L) ∧ W.cell? ⟨B, 1, none⟩ = some (.slice A rows.length cc))
        (first | with_reducible exact ⟨m0, m1⟩)
        (first
          | (go_at_call 68; refine (HI.out _).mono ?_; rintro e w2 ⟨rfl, rfl⟩)
          | (go_at_call 42; refine (HST.out _ hAcc1).mono ?_; rintro e w2 ⟨rfl, hB3⟩; replace hAcc := hAcc1.trans (hB3.mono (hAcc1.size)); replace m0 := (hAcc.cell (p := ⟨B, 0, none⟩) lB).trans k0; replace m1 := (hAcc.cell (p := ⟨B, 1, none⟩) lB).trans k1))
      go_wp2_with fail
      go_roundw
      case rel => exact ⟨i + 1, by go_num, hlt, by rw [HN.out], hAcc⟩
      case measure => simp [intOf]; omega
    · obtain rfl : i = s.size := by omega
      go_wp2
      go_ret
      exact ⟨by rw [show s.data.toList.take s.size = s.data.toList from List.take_of_length_le (by simp)]; rfl, hBB ▸ hB0.trans (hAcc.mono (by omega))⟩
end Go.Proofs.YtmokccidpnpimaaDoor
