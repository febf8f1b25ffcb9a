import Derived.Test.YtpppbkdbpbpinaaGreatDoorG9
import Derived.Deep.RegionHeld3
import Derived.Test.YtpppbkdbpbpinaaGreatDoorG4
set_option linter.unusedSimpArgs false
set_option linter.unusedVariables false
/- The set of all states; what is too large; where a word leads (both sides). -/
set_option linter.unusedVariables false
namespace Go.Proofs.YtpppbkdbpbpinaaGreatDoor
open Go.RowKit
theorem allI : ∀ n, n < 17 → wrap64 (2 ^ n) - 1 = ((2 ^ n - 1 : Nat) : Int) := by decide +kernel
theorem allR : ∀ n, n < 17 → 0 ≤ wrap64 (2 ^ n) ∧ wrap64 (2 ^ n) ≤ 65536 := by decide +kernel
set_option maxRecDepth 100000 in
theorem zall_any (rows : List (List Int)) (L : Int) (A : Option Addr) (cc : Nat) (w : World) (hn : rows.length < 17) :
    Calls Tryz.prog 51 #[.agg #[.int .i64 L, .slice A rows.length cc]] w fun e w' => e = .returned (.int .i64 (2 ^ rows.length - 1 : Nat)) ∧ Below w.heap.size w w' := by
  have hB0 : Below w.heap.size w (w.alloc (Obj.cells #[.int .i64 L, .slice A rows.length cc] 24)) := (Below.refl _ w).alloc (Nat.le_refl _) _
  have h1 := hide (allI _ hn)
  obtain ⟨h2, h3⟩ := allR _ hn
  go_enter Tryz.func51, Tryz.ntmps51
  go_wp2
  go_ret
  exact ⟨by rw [← h1.out]; rfl, hB0⟩
set_option maxRecDepth 100000 in
theorem zfull_any (rows : List (List Int)) (L : Int) (A : Option Addr) (cc : Nat) (w : World) (hn : rows.length < 17) :
    Calls Tryz.prog 57 #[.agg #[.int .i64 L, .slice A rows.length cc]] w fun e w' => e = .returned (.int .i64 (2 ^ rows.length - 1 : Nat)) ∧ Below w.heap.size w w' := by
  have hB0 : Below w.heap.size w (w.alloc (Obj.cells #[.int .i64 L, .slice A rows.length cc] 24)) := (Below.refl _ w).alloc (Nat.le_refl _) _
  have h1 := hide (allI _ hn)
  obtain ⟨h2, h3⟩ := allR _ hn
  go_enter Tryz.func57, Tryz.ntmps57
  go_wp2
  go_ret
  exact ⟨by rw [← h1.out]; rfl, hB0⟩
/-- what is larger than the statements examine -/
def grt (L : Int) (n : Nat) : Bool := (decide (6 < n) && decide (n ≤ 16)) || decide (18 < n) || (decide (3 < L) && decide (L ≤ 8))
/-- where a word leads from a set -/
def led (rows : List (List Int)) (S : Nat) (l : List UInt8) : Nat := l.foldl (fun S b => img rows S (dig b).toNat) S
theorem led_snoc (rows : List (List Int)) (S : Nat) (l : List UInt8) (b : UInt8) : led rows S (l ++ [b]) = img rows (led rows S l) (dig b).toNat := by unfold led; rw [List.foldl_append]; rfl
theorem led_append (rows : List (List Int)) (S : Nat) (l m : List UInt8) : led rows S (l ++ m) = led rows (led rows S l) m := by unfold led; rw [List.foldl_append]
/-- a word over the letters -/
def OkW (L : Nat) (l : List UInt8) : Prop := ∀ b ∈ l, 0 ≤ dig b ∧ dig b < L
theorem Aut.led_lt {rows : List (List Int)} {L S : Nat} (h : Aut rows L) (hS : S < 2 ^ rows.length) {l : List UInt8} (hl : OkW L l) : led rows S l < 2 ^ rows.length := by
  induction l generalizing S with
  | nil => exact hS
  | cons b l ih =>
    have := hl b (List.mem_cons_self ..)
    exact ih (h.img_lt (c := (dig b).toNat) (by omega) S) fun x hx => hl x (List.mem_cons_of_mem _ hx)
theorem idxB (c : UInt8) (W : World) : Calls Tryz.prog 231 #[.string ⟨#[48, 49, 50, 51, 52, 53, 54, 55, 56, 57, 97, 98, 99, 100, 101, 102]⟩, .int .u8 c.toNat] W fun e w' => e = .returned (.int .i64 (dig c)) ∧ W = w' := by
  refine (strings_IndexByte _ _ _).mono ?_
  rintro e w' ⟨rfl, h⟩
  refine ⟨?_, h⟩
  have := index_lets16 ⟨c.toNat, c.toNat_lt⟩
  simp only [UInt8.ofNat_toNat] at this
  rw [← this, Int.toNat_natCast]
  exact ret_int (by simp [lets])
set_option maxRecDepth 100000 in
set_option maxHeartbeats 4000000 in
theorem zlead_any (rows : List (List Int)) (L S : Nat) (s : ByteArray) (A : Option Addr) (cc : Nat) (w : World) (hA : Aut rows L) (hS : S < 2 ^ rows.length) (hs : OkW L s.data.toList) (hb : s.size ≤ 9223372036854775807) (hR : RowD w A rows) (hT : TabZ w) :
    Calls Tryz.prog 304 #[.agg #[.int .i64 L, .slice A rows.length cc], .int .i64 S, .string s] w fun e w' => e = .returned (.int .i64 (led rows S s.data.toList)) ∧ Below w.heap.size w w' := by
  have hB0 : Below w.heap.size w (w.alloc (Obj.cells #[.int .i64 L, .slice A rows.length cc] 24)) := (Below.refl _ w).alloc (Nat.le_refl _) _
  have HR := hide (hR.below hB0)
  have HT := hide (hT.below hB0)
  obtain ⟨B, hBB⟩ : ∃ B, w.heap.size = B := ⟨_, rfl⟩
  have k0 : (w.alloc (Obj.cells #[.int .i64 L, .slice A rows.length cc] 24)).cell? ⟨B, 0, none⟩ = some (.int .i64 L) := by
    rw [cell_of_row _ B 0 _ _ _ (by rw [← hBB]; exact heap_alloc_new w _)]; rfl
  have k1 : (w.alloc (Obj.cells #[.int .i64 L, .slice A rows.length cc] 24)).cell? ⟨B, 1, none⟩ = some (.slice A rows.length cc) := by
    rw [cell_of_row _ B 1 _ _ _ (by rw [← hBB]; exact heap_alloc_new w _)]; rfl
  have hsz : (w.alloc (Obj.cells #[.int .i64 L, .slice A rows.length cc] 24)).heap.size = B + 1 := by rw [← hBB]; simp
  have HA := hide hA
  have HS := hide hS
  have HW := hide hs
  clear hA hR hT hS hs
  go_enter Tryz.func304, Tryz.ntmps304
  go_wp2
  generalize w.alloc (Obj.cells #[.int .i64 L, .slice A rows.length cc] 24) = W1 at hB0 HR HT k0 k1 hsz ⊢
  have lB : B < W1.heap.size := by omega
  go_loopw [1, 10] (fun sv iv wr => ∃ i : Nat, iv = .int .i64 i ∧ i ≤ s.size ∧ sv = .int .i64 (led rows S (s.data.toList.take i)) ∧ Below W1.heap.size W1 wr) (fun _ iv _ => s.size - (intOf iv).toNat)
  case atStart => exact ⟨0, rfl, Nat.zero_le _, rfl, Below.refl _ _⟩
  case round =>
    obtain ⟨i, rfl, hi, rfl, hAcc⟩ := hrel
    by_cases hlt : i < s.size
    · have hd := HW.out _ (mem_bytes s i hlt)
      have HN := hide (show led rows S (s.data.toList.take (i + 1)) = img rows (led rows S (s.data.toList.take i)) (dig s[i]).toNat by rw [take_snoc s i hlt, led_snoc])
      have hT2 : led rows S (s.data.toList.take i) < 2 ^ rows.length := HA.out.led_lt HS.out fun b hb => HW.out b (List.mem_of_mem_take hb)
      obtain ⟨T, hTT⟩ : ∃ T, led rows S (s.data.toList.take i) = T := ⟨_, rfl⟩
      rw [hTT] at HN hT2 ⊢
      obtain ⟨c, hc⟩ := Int.eq_ofNat_of_zero_le hd.1
      have HI : Hid (∀ W, Calls Tryz.prog 231 #[.string ⟨#[48, 49, 50, 51, 52, 53, 54, 55, 56, 57, 97, 98, 99, 100, 101, 102]⟩, .int .u8 s[i].toNat] W fun e w' => e = .returned (.int .i64 (c : Int)) ∧ W = w') := hide fun W => by
        have := idxB s[i] W
        rw [hc] at this
        exact this
      rw [hc, Int.toNat_natCast] at HN
      have hcL : c < L := by omega
      clear hd hc hTT
      have hAcc0 := hAcc
      have hAcc1 : Below W1.heap.size W1 wr.drew := hAcc.drew
      have HST : Hid (∀ W, Below W1.heap.size W1 W → Calls Tryz.prog 118 #[.agg #[.int .i64 L, .slice A rows.length cc], .int .i64 T, .int .i64 c] W fun e w' => e = .returned (.int .i64 (img rows T c)) ∧ Below W.heap.size W w') :=
        hide fun W hW => zstep_any rows L T c A cc W HA.out hcL hT2 (HR.out.below hW) (HT.out.below hW)
      have m0 : wr.drew.cell? ⟨B, 0, none⟩ = some (.int .i64 L) := (hAcc1.cell (p := ⟨B, 0, none⟩) lB).trans k0
      have m1 : wr.drew.cell? ⟨B, 1, none⟩ = some (.slice A rows.length cc) := (hAcc1.cell (p := ⟨B, 1, none⟩) lB).trans k1
      go_wp2_with fail
      go_region_held3 (fun W => W.cell? ⟨B, 0, none⟩ = some (.int .i64 L) ∧ W.cell? ⟨B, 1, none⟩ = some (.slice A rows.length cc))
        (first | with_reducible exact ⟨m0, m1⟩)
        (first
          | (go_at_call 231; refine (HI.out _).mono ?_; rintro e w2 ⟨rfl, rfl⟩)
          | (go_at_call 118; refine (HST.out _ hAcc1).mono ?_; rintro e w2 ⟨rfl, hB3⟩; replace hAcc := hAcc1.trans (hB3.mono (hAcc1.size)); replace m0 := (hAcc.cell (p := ⟨B, 0, none⟩) lB).trans k0; replace m1 := (hAcc.cell (p := ⟨B, 1, none⟩) lB).trans k1))
      go_wp2_with fail
      go_roundw
      case rel => exact ⟨i + 1, by go_num, hlt, by rw [HN.out], hAcc⟩
      case measure => simp [intOf]; omega
    · obtain rfl : i = s.size := by omega
      go_wp2
      go_ret
      exact ⟨by rw [show s.data.toList.take s.size = s.data.toList from List.take_of_length_le (by simp)]; rfl, hBB ▸ hB0.trans (hAcc.mono (by omega))⟩
end Go.Proofs.YtpppbkdbpbpinaaGreatDoor

/- reset.Check: its contract. -/
set_option linter.unusedVariables false
namespace Go.Proofs.YtpppbkdbpbpinaaGreatDoor
open Go.RowKit
def badB (n : Nat) (t : Int) : Bool := decide (t < 0) || decide ((n : Int) ≤ t)
set_option maxRecDepth 100000 in
theorem zCheckf_any (n : Nat) (z : Int) (A : Option Addr) (c B : Nat) (w : World) (h : w.cell? ⟨B, 1, none⟩ = some (.slice A n c)) :
    Calls Tryz.prog 115 #[.int .i64 z, .pointer (some ⟨B, 0, none⟩)] w fun e w' => e = .returned (.bool (badB n z)) ∧ w = w' := by
  by_cases h0 : z < 0
  · have d : decide (z < 0) = true := decide_eq_true h0
    have e : badB n z = true := by unfold badB; rw [d]; rfl
    rw [e]
    clear h0 e
    go_enter Tryz.func115, Tryz.ntmps115
    go_wp2
    go_ret
    exact ⟨rfl, rfl⟩
  · have d : decide (z < 0) = false := decide_eq_false h0
    have e : badB n z = decide ((n : Int) ≤ z) := by unfold badB; rw [d]; rfl
    rw [e]
    clear h0 e
    go_enter Tryz.func115, Tryz.ntmps115
    go_wp2
    go_ret
    exact ⟨rfl, rfl⟩
set_option maxRecDepth 100000 in
set_option maxHeartbeats 1000000 in
theorem ifIz_any (n : Nat) (r : List Int) (D A : Option Addr) (cD c B : Nat) (w : World) (hr : RowI w D r) (hb : r.length ≤ 8) (h : w.cell? ⟨B, 1, none⟩ = some (.slice A n c)) :
    Calls Tryz.prog 190 #[.slice D r.length cD, .func (.func 115) #[] #[.pointer (some ⟨B, 0, none⟩)]] w fun e w' => (∃ z : Int, e = .returned (.int .i64 z) ∧ decide (0 ≤ z) = r.any (badB n)) ∧ w = w' := by
  have HR := hide hr
  have HF := hide (fun z => zCheckf_any n z A c B w h)
  clear hr h
  go_enter Tryz.func190, Tryz.ntmps190
  go_wp2
  go_loopw [8] (fun iv wr => ∃ i : Nat, iv = .int .i64 i ∧ i ≤ r.length ∧ Hid (∀ j (hj : j < r.length), j < i → badB n r[j] = false) ∧ wr = w) (fun iv _ => r.length - (intOf iv).toNat)
  case atStart => exact ⟨0, rfl, Nat.zero_le _, hide fun j _ h => absurd h (by omega), rfl⟩
  case round =>
    obtain ⟨i, rfl, hi, hJ, rfl⟩ := hrel
    by_cases hlt : i < r.length
    · obtain ⟨b, o, rfl, hbl, hcell⟩ := HR.out (by omega)
      have hc := hcell i hlt
      obtain ⟨z, hz⟩ : ∃ z, z = r[i] := ⟨_, rfl⟩
      rw [← hz] at hc
      have HZ := hide hz
      have HC := hide hcell
      have hi0 : (0 : Int) ≤ (i : Int) := by omega
      have hi1 : (i : Int) < (r.length : Int) := by omega
      clear hz hcell
      cases hbad : badB n z with
      | true =>
        have HF2 := HF.out z
        rw [hbad] at HF2
        have HA := hide (show r.any (badB n) = true by
          rw [List.any_eq_true]
          exact ⟨r[i], List.getElem_mem _, by rw [← HZ.out]; exact hbad⟩)
        have HF3 := hide HF2
        clear hbad HF2
        go_wp2_with (go_at_call 115; refine HF3.out.mono ?_; rintro e w' ⟨rfl, rfl⟩)
        go_ret
        exact ⟨⟨_, rfl, by rw [HA.out]; exact decide_eq_true hi0⟩, rfl⟩
      | false =>
        have HF2 := HF.out z
        rw [hbad] at HF2
        have HJ2 := hide (show ∀ j (hj : j < r.length), j < i + 1 → badB n r[j] = false from fun j hj hji => by
          rcases Nat.lt_or_ge j i with h | h
          · exact hJ.out j hj h
          · obtain rfl : j = i := by omega
            rw [← HZ.out]; exact hbad)
        have HF3 := hide HF2
        clear hbad HF2 hJ
        go_wp2_with (go_at_call 115; refine HF3.out.mono ?_; rintro e w' ⟨rfl, rfl⟩)
        go_roundw
        case rel => exact ⟨i + 1, by go_num, hlt, HJ2, by first | exact trivial | rfl⟩
        case measure => simp [intOf]; omega
    · obtain rfl : i = r.length := by omega
      have HA := hide (show r.any (badB n) = false by
        rw [List.any_eq_false]
        intro x hx
        obtain ⟨j, hj, rfl⟩ := List.getElem_of_mem hx
        rw [hJ.out j hj hj]; decide)
      go_wp2
      go_ret
      exact ⟨⟨-1, rfl, by rw [HA.out]; decide⟩, rfl⟩
set_option maxRecDepth 100000 in
theorem cfIz_any (n : Nat) (r : List Int) (D A : Option Addr) (cD c B : Nat) (w : World) (hr : RowI w D r) (hb : r.length ≤ 8) (h : w.cell? ⟨B, 1, none⟩ = some (.slice A n c)) :
    Calls Tryz.prog 114 #[.slice D r.length cD, .func (.func 115) #[] #[.pointer (some ⟨B, 0, none⟩)]] w fun e w' => e = .returned (.bool (r.any (badB n))) ∧ w = w' := by
  have HI := hide (ifIz_any n r D A cD c B w hr hb h)
  clear hr h
  go_enter Tryz.func114, Tryz.ntmps114
  go_wp2_with fail
  refine HI.out.mono ?_
  rintro e w1 ⟨⟨z, rfl, hz⟩, rfl⟩
  have HZ := hide hz
  clear hz
  go_wp2
  go_ret
  exact ⟨by rw [← HZ.out]; rfl, rfl⟩
theorem chkRow_bad {n L : Nat} {r : List Int} (h : r.length = L) (hb : r.any (badB n) = true) : chkRow n L r = 25 := by
  unfold chkRow; rw [if_neg (by simp [h])]; exact if_pos hb
theorem chkRow_good {n L : Nat} {r : List Int} (h : r.length = L) (hb : r.any (badB n) = false) : chkRow n L r = 0 := by
  unfold chkRow; rw [if_neg (by simp [h])]; exact if_neg (by rw [show (fun t => decide (t < 0) || decide ((n : Int) ≤ t)) = badB n from rfl, hb]; decide)
set_option maxRecDepth 100000 in
set_option maxHeartbeats 4000000 in
theorem zCheck_any (L : Int) (rows : List (List Int)) (A : Option Addr) (c : Nat) (w : World) (hR : RowD w A rows) (hb : rows.length ≤ 9223372036854775807) :
    Calls Tryz.prog 49 #[.agg #[.int .i64 L, .slice A rows.length c]] w fun e w' => e = .returned (.int .i64 (chkA L rows)) ∧ Below w.heap.size w w' := by
  have hB0 : Below w.heap.size w (w.alloc (Obj.cells #[.int .i64 L, .slice A rows.length c] 24)) := (Below.refl _ w).alloc (Nat.le_refl _) _
  by_cases hL : L < 1 ∨ 8 < L
  · have HC := hide (chkA_bad (rows := rows) hL)
    by_cases h1 : L < 1
    · have d1 : decide (L < 1) = true := decide_eq_true h1
      go_enter Tryz.func49, Tryz.ntmps49
      go_wp2
      go_ret
      exact ⟨by rw [HC.out]; rfl, hB0⟩
    · have d1 : decide (L < 1) = false := decide_eq_false h1
      have d2 : decide (8 < L) = true := decide_eq_true (by omega)
      go_enter Tryz.func49, Tryz.ntmps49
      go_wp2
      go_ret
      exact ⟨by rw [HC.out]; rfl, hB0⟩
  · have d1 : decide (L < 1) = false := decide_eq_false (by omega)
    have d2 : decide (8 < L) = false := decide_eq_false (by omega)
    by_cases h0 : rows.length = 0
    · have HC := hide (chkA_empty hL h0)
      have hz : ((rows.length : Int) == 0) = true := by rw [h0]; rfl
      clear h0
      go_enter Tryz.func49, Tryz.ntmps49
      go_wp2
      go_ret
      exact ⟨by rw [HC.out]; rfl, hB0⟩
    · have hz : ((rows.length : Int) == 0) = false := by rw [beq_eq_false_iff_ne]; omega
      by_cases h16 : 16 < rows.length
      · have HC := hide (chkA_many hL h16)
        have d3 : decide ((16 : Int) < (rows.length : Int)) = true := decide_eq_true (by omega)
        go_enter Tryz.func49, Tryz.ntmps49
        go_wp2
        go_ret
        exact ⟨by rw [HC.out]; rfl, hB0⟩
      · have HC := hide (chkA_rows hL h0 h16)
        have d3 : decide ((16 : Int) < (rows.length : Int)) = false := decide_eq_false (by omega)
        have HR := hide (hR.below hB0)
        obtain ⟨B, hBB⟩ : ∃ B, w.heap.size = B := ⟨_, rfl⟩
        have k0 : (w.alloc (Obj.cells #[.int .i64 L, .slice A rows.length c] 24)).cell? ⟨B, 0, none⟩ = some (.int .i64 L) := by
          rw [cell_of_row _ B 0 _ _ _ (by rw [← hBB]; exact heap_alloc_new w _)]; rfl
        have k1 : (w.alloc (Obj.cells #[.int .i64 L, .slice A rows.length c] 24)).cell? ⟨B, 1, none⟩ = some (.slice A rows.length c) := by
          rw [cell_of_row _ B 1 _ _ _ (by rw [← hBB]; exact heap_alloc_new w _)]; rfl
        have hn16 : rows.length ≤ 16 := by omega
        obtain ⟨l, rfl⟩ := Int.eq_ofNat_of_zero_le (show 0 ≤ L by omega)
        have hl8 : 1 ≤ l ∧ l ≤ 8 := by omega
        clear hR hb h16 h0 hL
        go_enter Tryz.func49, Tryz.ntmps49
        go_wp2
        generalize w.alloc (Obj.cells #[.int .i64 (l : Int), .slice A rows.length c] 24) = W1 at hB0 HR k0 k1 ⊢
        go_loopw [27] (fun iv wr => ∃ s : Nat, iv = .int .i64 s ∧ s ≤ rows.length ∧ Hid (∀ j (hj : j < rows.length), j < s → chkRow rows.length l rows[j] = 0) ∧ wr = W1) (fun iv _ => rows.length - (intOf iv).toNat)
        case atStart => exact ⟨0, rfl, Nat.zero_le _, hide fun j _ h => absurd h (by omega), rfl⟩
        case round =>
          obtain ⟨s, rfl, hs, hK, rfl⟩ := hrel
          by_cases hlt : s < rows.length
          · obtain ⟨b, o, rfl, hbl, hcell⟩ := HR.out (by omega)
            obtain ⟨D, cD, hcs, hrow⟩ := hcell s hlt
            obtain ⟨r, hr⟩ : ∃ r, r = rows[s] := ⟨_, rfl⟩
            rw [← hr] at hcs hrow
            have HCELL := hide hcell
            have hs0 : (0 : Int) ≤ (s : Int) := by omega
            have hs1 : (s : Int) < (rows.length : Int) := by omega
            have HRR := hide hr
            by_cases hne : r.length = l
            · have hb1 : ((r.length : Int) != (l : Int)) = false := by rw [hne]; simp
              have HCF := cfIz_any rows.length r D (some ⟨b, o, none⟩) cD c B wr hrow (by omega) k1
              have HNE := hide hne
              cases hbad : r.any (badB rows.length) with
              | true =>
                rw [hbad] at HCF
                have HC2 := hide (show chkRows rows.length l rows = 25 by
                  have h11 : chkRow rows.length l rows[s] = 25 := by rw [← HRR.out]; exact chkRow_bad hne hbad
                  rw [chkRows_at hlt hK.out (by rw [h11]; decide), h11])
                have HCF2 := hide HCF
                clear hbad HCF hne hcell hr hrow
                go_wp2_with (go_at_call 114; refine HCF2.out.mono ?_; rintro e w' ⟨rfl, rfl⟩)
                go_ret
                exact ⟨by rw [HC.out, Int.toNat_natCast, HC2.out]; rfl, hB0⟩
              | false =>
                rw [hbad] at HCF
                have H0 := hide (chkRow_good hne hbad)
                have HCF2 := hide HCF
                clear hbad HCF hne hcell hr hrow
                go_wp2_with (go_at_call 114; refine HCF2.out.mono ?_; rintro e w' ⟨rfl, rfl⟩)
                go_roundw
                case rel =>
                  refine ⟨s + 1, by go_num, hlt, hide fun j hj hjs => ?_, by first | exact trivial | rfl⟩
                  rcases Nat.lt_or_ge j s with h | h
                  · exact hK.out j hj h
                  · obtain rfl : j = s := by omega
                    have h4 := HRR.out
                    rw [← h4]
                    exact H0.out
                case measure => simp [intOf]; omega
            · have hb1 : ((r.length : Int) != (l : Int)) = true := by rw [bne_iff_ne]; omega
              have HC2 := hide (show chkRows rows.length l rows = 11 by
                have h11 : chkRow rows.length l rows[s] = 11 := by
                  rw [← HRR.out]; unfold chkRow; rw [if_pos hne]
                rw [chkRows_at hlt hK.out (by rw [h11]; decide), h11])
              clear hne hcell hr hrow
              go_wp2
              go_ret
              exact ⟨by rw [HC.out, Int.toNat_natCast, HC2.out]; rfl, hB0⟩
          · obtain rfl : s = rows.length := by omega
            have HC2 := hide (chkRows_ok fun j hj => hK.out j hj hj)
            go_wp2
            go_ret
            exact ⟨by rw [HC.out, Int.toNat_natCast, HC2.out]; rfl, hB0⟩
end Go.Proofs.YtpppbkdbpbpinaaGreatDoor

/- an automaton of few states (printed by wip/mk_w59.py). -/
set_option linter.unusedVariables false
namespace Go.Proofs.YtpppbkdbpbpinaaGreatDoor
open Go.RowKit
/-- few states, few letters, if it is an automaton -/
def Fit (L : Int) (rows : List (List Int)) : Prop := chkA L rows = 0 → rows.length ≤ 6 ∧ L ≤ 4
theorem aut_fit {L : Int} {rows : List (List Int)} (hg : Fit L rows) (h : chkA L rows = 0) : ∃ l : Nat, L = l ∧ Aut rows l := by
  have hf := hg h
  unfold chkA at h
  by_cases h1 : L < 1 ∨ 8 < L
  · rw [if_pos h1] at h; cases h
  rw [if_neg h1] at h
  by_cases h2 : rows.length = 0
  · rw [if_pos h2] at h; cases h
  rw [if_neg h2] at h
  by_cases h3 : 16 < rows.length
  · rw [if_pos h3] at h; cases h
  rw [if_neg h3] at h
  exact ⟨L.toNat, by omega, h, by omega, hf.1, by omega, by omega⟩
theorem full_lt (n : Nat) : 2 ^ n - 1 < 2 ^ n := by have := Nat.pow_pos (n := n) (show 0 < 2 by decide); omega
end Go.Proofs.YtpppbkdbpbpinaaGreatDoor
