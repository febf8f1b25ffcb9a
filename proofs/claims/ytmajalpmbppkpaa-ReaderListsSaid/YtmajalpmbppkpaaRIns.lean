/- grooveref47.Insertions, indel.Insertions and grooveref47.Ball: their contracts, errors too. -/
import Derived.Test.YtmajalpmbppkpaaRBal
import Derived.Test.YtmajalpmbppkpaaIns
set_option linter.unusedVariables false
namespace Go.Proofs.Ytmajalpmbppkpaa
open Go.RowKit
theorem rchkq_any (q : Int) (s : ByteArray) (hs : s.size ≤ 256) (w : World) :
    Calls Try.prog 80 #[.int .i64 q, .string s] w fun e w' => e = .returned (.int .i64 (chk q s.data.toList)) ∧ w = w' := by
  have h6 : ¬ (256 : Int) < (s.size : Int) := by omega
  obtain ⟨z, hz⟩ : ∃ z, z = chk q s.data.toList := ⟨_, rfl⟩
  rw [← hz]
  have HZ := hide hz
  clear hz
  go_enter Try.func80, Try.ntmps80
  go_wp2_with (go_at_call 36; refine (rcheck_any _ _ _).mono ?_; rintro e w' ⟨rfl, rfl⟩; rw [← HZ.out])
  go_ret
  exact ⟨rfl, rfl⟩
set_option maxRecDepth 100000 in
set_option maxHeartbeats 4000000 in
theorem rins_ok (q : Nat) (s : ByteArray) (hq : 1 ≤ q ∧ q ≤ 16) (hs : s.size < 256) (hc : chk q s.data.toList = 0) (w : World) :
    Calls Try.prog 48 #[.int .i64 (q : Int), .string s] w fun e w' => ∃ vl, e = .returned (.tuple #[vl, .int .i64 0]) ∧ (∃ rs, Strs w' w.heap.size vl rs ∧ InsRes q s rs) ∧ Below w.heap.size w w' := by
  obtain ⟨hq1, hq2⟩ := hq
  have hn1 : decide ((q : Int) < 1) = false := decide_eq_false (by omega)
  have hn2 : decide (16 < (q : Int)) = false := decide_eq_false (by omega)
  have hn3 : decide (256 ≤ (s.size : Int)) = false := decide_eq_false (by omega)
  have C0 := fun W => rchkq_any q s (by omega) W
  rw [hc] at C0
  have H0 := hide C0
  obtain ⟨B, hB⟩ : ∃ B, w.heap.size = B := ⟨_, rfl⟩
  have hr0 : Row1 (w.alloc (Obj.cells #[] 9)) B (.slice (some ⟨B, 0, none⟩) 0 0) [] := ⟨Strs.empty_ hB (Nat.le_refl _), by simp⟩
  have hB0 := (Below.refl B w).alloc (by omega) (Obj.cells #[] 9)
  clear hc C0
  go_enter Try.func48, Try.ntmps48
  go_wp2_with fail
  refine (H0.out _).mono ?_
  rintro e w1 ⟨rfl, rfl⟩
  go_wp2
  go_loopw [7, 8] (fun v iv wr => ∃ (v0 : Value) (k : Nat) (ys : List ByteArray), v0 = v ∧ iv = .int .i64 k ∧ k ≤ s.size + 1 ∧ Row1 wr B v0 ys ∧ ys.length ≤ k * 16 ∧ Hid (Asc ys ∧ ∀ z, z ∈ ys ↔ z.data.toList ∈ inss s q k) ∧ Below B w wr) (fun _ iv _ => s.size + 1 - (intOf iv).toNat)
  case atStart => exact ⟨_, 0, [], rfl, rfl, Nat.zero_le _, hr0, Nat.zero_le _, hide ⟨List.Pairwise.nil, fun z => by simp [inss]⟩, hB0⟩
  case round =>
    obtain ⟨v0, k, ys, rfl, rfl, hk, hrow, hyl, hY, hBw⟩ := hrel
    clear hr0 hB0
    by_cases hlt : k < s.size + 1
    · have hkd : decide ((k : Int) ≤ (s.size : Int)) = true := decide_eq_true (by omega)
      have hkd2 : (k : Int) ≤ (s.size : Int) := by omega
      have hk0 : (0 : Int) ≤ (k : Int) := by omega
      have hk2 : k ≤ s.size := by omega
      have hY1 := hide (show Asc ys ∧ ∀ z, z ∈ ys ↔ z.data.toList ∈ inss s q k ++ insRow s k 0 by simpa [insRow] using hY.out)
      go_wp2
      go_loopw [7, 9] (fun v cv wr => ∃ (v0 : Value) (c : Nat) (ys : List ByteArray), v0 = v ∧ cv = .int .i64 c ∧ c ≤ q ∧ Row1 wr B v0 ys ∧ ys.length ≤ k * 16 + c ∧ Hid (Asc ys ∧ ∀ z, z ∈ ys ↔ z.data.toList ∈ inss s q k ++ insRow s k c) ∧ Below B w wr) (fun _ cv _ => q - (intOf cv).toNat)
      case atStart => exact ⟨_, 0, ys, rfl, rfl, Nat.zero_le _, hrow, by omega, hY1, hBw⟩
      case round =>
        obtain ⟨v0, c, ys, rfl, rfl, hcq, hrow, hyl, hY2, hBc⟩ := hrel
        clear hY1 hBw hY
        by_cases hlc : c < q
        · have hc16 : c < 16 := by omega
          have hsl := fun W => lsl c hc16 W
          have HSZ := insC_size s k c hk2 hc16
          have HROW := hide (insRow_succ s k c)
          have hBs : B ≤ wr.heap.size := by have := hBc.size; omega
          have HA := add_any B v0 ys (insC s k c) wr.drew hrow (by omega) hBs hY2.out.1
          unfold insC at HA
          obtain ⟨cs, hcs⟩ : ∃ cs, cs = (⟨#[48, 49, 50, 51, 52, 53, 54, 55, 56, 57, 97, 98, 99, 100, 101, 102]⟩ : ByteArray).extract c (c + 1) := ⟨_, rfl⟩
          have hcz : cs.size ≤ 1 := by rw [hcs]; simp; omega
          rw [← hcs] at HA hsl
          have HCS := hide hcs
          have HAA := hide HA
          clear hcs HSZ HA hrow
          have hc0 : (0 : Int) ≤ (c : Int) := by omega
          go_wp2_with fail
          have q0 : IntKind.i64.wrap ((c : Int) + 1) = (c : Int) + 1 := IntWalk.i64_in _ (by omega)
          have q1 : ¬ 9223372036854775807 < k + cs.size := by omega
          have q2 : ¬ 9223372036854775807 < k + cs.size + (s.size - k) := by omega
          go_region_held3 (fun _ => True) (exact trivial) ((go_at_call 82; refine HAA.out.mono ?_; rintro e w2 ⟨v2, ys2, rfl, hrow2, hres2, hB2⟩))
          clear q0 q1 q2 hsl HAA
          have hlen2 := hres2.2.2
          have HR2 := hide (show Asc ys2 ∧ ∀ z, z ∈ ys2 ↔ z.data.toList ∈ inss s q k ++ insRow s k (c + 1) from ⟨hres2.1, fun z => by
            rw [hres2.2.1 z, hY2.out.2 z, HROW.out, ← List.append_assoc]
            simp only [List.mem_append, List.mem_singleton]
            have e : s.extract 0 k ++ cs ++ s.extract k s.size = insC s k c := by rw [HCS.out]; rfl
            rw [e]
            constructor
            · rintro (h | rfl)
              · exact .inl h
              · exact .inr rfl
            · rintro (h | h)
              · exact .inl h
              · exact .inr (ba_ext h)⟩)
          clear hres2 hY2 HROW HCS
          go_wp2
          go_roundw
          case rel => exact ⟨v2, c + 1, ys2, rfl, by go_num, hlc, hrow2, by omega, HR2, hBc.drew.trans (hB2.mono hBs)⟩
          case measure => simp [intOf]; omega
        · obtain rfl : c = q := by omega
          have HR2 := hide (show Asc ys ∧ ∀ z, z ∈ ys ↔ z.data.toList ∈ inss s c (k + 1) by rw [inss_succ]; exact hY2.out)
          go_wp2
          go_roundw
          case rel => exact ⟨v0, k + 1, ys, rfl, by go_num, by omega, hrow, by omega, HR2, hBc⟩
          case measure => simp [intOf]; omega
    · obtain rfl : k = s.size + 1 := by omega
      have hkd : decide (((s.size + 1 : Nat) : Int) ≤ (s.size : Int)) = false := decide_eq_false (by omega)
      go_wp2
      go_ret2
      exact ⟨v0, rfl, ⟨ys, by rw [hB]; exact hrow.1, hY.out⟩, by rw [hB]; exact hBw⟩
set_option maxRecDepth 100000 in
set_option maxHeartbeats 1000000 in
theorem rins_any (q : Int) (s : ByteArray) (w : World) :
    Calls Try.prog 48 #[.int .i64 q, .string s] w fun e w' => ∃ vl, e = .returned (.tuple #[vl, .int .i64 (insE q s)]) ∧ (∃ rs, Strs w' w.heap.size vl rs ∧ (insE q s = 0 → InsRes q.toNat s rs) ∧ (insE q s ≠ 0 → rs = [])) ∧ Below w.heap.size w w' := by
  by_cases hq : q < 1 ∨ 16 < q
  · have hE : insE q s = 12 := by unfold insE; rw [if_pos hq]
    have HE := hide hE
    clear hE
    by_cases hq1 : q < 1
    · have hn1 : decide (q < 1) = true := decide_eq_true hq1
      clear hq
      go_enter Try.func48, Try.ntmps48
      go_wp2
      go_ret2
      exact ⟨_, by rw [HE.out]; rfl, ⟨[], Strs.nil_ _ _, fun h => absurd (HE.out ▸ h) (by omega), fun _ => rfl⟩, Below.refl _ _⟩
    · have hn1 : decide (q < 1) = false := decide_eq_false hq1
      have hn2 : decide (16 < q) = true := decide_eq_true (by omega)
      clear hq
      go_enter Try.func48, Try.ntmps48
      go_wp2
      go_ret2
      exact ⟨_, by rw [HE.out]; rfl, ⟨[], Strs.nil_ _ _, fun h => absurd (HE.out ▸ h) (by omega), fun _ => rfl⟩, Below.refl _ _⟩
  · have hn1 : decide (q < 1) = false := decide_eq_false (by omega)
    have hn2 : decide (16 < q) = false := decide_eq_false (by omega)
    by_cases hs : 256 ≤ s.size
    · have hE : insE q s = 4 := by unfold insE; rw [if_neg hq, if_pos hs]
      have HE := hide hE
      have hn3 : decide (256 ≤ (s.size : Int)) = true := decide_eq_true (by omega)
      clear hE hq
      go_enter Try.func48, Try.ntmps48
      go_wp2
      go_ret2
      exact ⟨_, by rw [HE.out]; rfl, ⟨[], Strs.nil_ _ _, fun h => absurd (HE.out ▸ h) (by omega), fun _ => rfl⟩, Below.refl _ _⟩
    · have hn3 : decide (256 ≤ (s.size : Int)) = false := decide_eq_false (by omega)
      have hE : insE q s = chk q s.data.toList := by unfold insE; rw [if_neg hq, if_neg hs]
      by_cases hc : chk q s.data.toList = 0
      · rw [hc] at hE
        obtain ⟨p, rfl⟩ : ∃ p : Nat, q = p := ⟨q.toNat, by omega⟩
        refine (rins_ok p s (by omega) (by omega) hc w).mono ?_
        rintro e w' ⟨vl, rfl, ⟨rs, h1, h2⟩, h3⟩
        exact ⟨vl, by rw [hE], ⟨rs, h1, fun _ => h2, fun h => absurd hE h⟩, h3⟩
      · obtain ⟨z, hz⟩ : ∃ z, z = chk q s.data.toList := ⟨_, rfl⟩
        rw [← hz] at hE hc
        have h7 : (z != 0) = true := by simpa using hc
        have HE := hide hE
        have HC := hide hc
        have HZ := hide hz
        have hs256 : s.size ≤ 256 := by omega
        clear hE hc hz hq
        go_enter Try.func48, Try.ntmps48
        go_wp2_with (go_at_call 80; refine (rchkq_any _ _ hs256 _).mono ?_; rintro e w' ⟨rfl, rfl⟩; rw [← HZ.out])
        go_ret2
        exact ⟨_, by rw [HE.out]; rfl, ⟨[], Strs.nil_ _ _, fun h => absurd (HE.out ▸ h) HC.out, fun _ => rfl⟩, Below.refl _ _⟩
set_option maxRecDepth 100000 in
set_option maxHeartbeats 1000000 in
theorem iins_any (q : Int) (s : ByteArray) (w : World) :
    Calls Try.prog 38 #[.int .i64 q, .string s] w fun e w' => ∃ vl, e = .returned (.tuple #[vl, .int .i64 (insE q s)]) ∧ (∃ rs, Strs w' w.heap.size vl rs ∧ (insE q s = 0 → InsRes q.toNat s rs) ∧ (insE q s ≠ 0 → rs = [])) ∧ Below w.heap.size w w' := by
  by_cases hq : q < 1 ∨ 16 < q
  · have hE : insE q s = 12 := by unfold insE; rw [if_pos hq]
    have HE := hide hE
    clear hE
    by_cases hq1 : q < 1
    · have hn1 : decide (q < 1) = true := decide_eq_true hq1
      clear hq
      go_enter Try.func38, Try.ntmps38
      go_wp2
      go_ret2
      exact ⟨_, by rw [HE.out]; rfl, ⟨[], Strs.nil_ _ _, fun h => absurd (HE.out ▸ h) (by omega), fun _ => rfl⟩, Below.refl _ _⟩
    · have hn1 : decide (q < 1) = false := decide_eq_false hq1
      have hn2 : decide (16 < q) = true := decide_eq_true (by omega)
      clear hq
      go_enter Try.func38, Try.ntmps38
      go_wp2
      go_ret2
      exact ⟨_, by rw [HE.out]; rfl, ⟨[], Strs.nil_ _ _, fun h => absurd (HE.out ▸ h) (by omega), fun _ => rfl⟩, Below.refl _ _⟩
  · have hn1 : decide (q < 1) = false := decide_eq_false (by omega)
    have hn2 : decide (16 < q) = false := decide_eq_false (by omega)
    by_cases hs : 256 ≤ s.size
    · have hE : insE q s = 4 := by unfold insE; rw [if_neg hq, if_pos hs]
      have HE := hide hE
      have hn3 : decide (256 ≤ (s.size : Int)) = true := decide_eq_true (by omega)
      clear hE hq
      go_enter Try.func38, Try.ntmps38
      go_wp2
      go_ret2
      exact ⟨_, by rw [HE.out]; rfl, ⟨[], Strs.nil_ _ _, fun h => absurd (HE.out ▸ h) (by omega), fun _ => rfl⟩, Below.refl _ _⟩
    · have hn3 : decide (256 ≤ (s.size : Int)) = false := decide_eq_false (by omega)
      have hE : insE q s = chk q s.data.toList := by unfold insE; rw [if_neg hq, if_neg hs]
      by_cases hc : chk q s.data.toList = 0
      · rw [hc] at hE
        obtain ⟨p, rfl⟩ : ∃ p : Nat, q = p := ⟨q.toNat, by omega⟩
        refine (ins_ok p s (by omega) (by omega) hc w).mono ?_
        rintro e w' ⟨vl, rfl, ⟨rs, h1, h2⟩, h3⟩
        exact ⟨vl, by rw [hE], ⟨rs, h1, fun _ => h2, fun h => absurd hE h⟩, h3⟩
      · obtain ⟨z, hz⟩ : ∃ z, z = chk q s.data.toList := ⟨_, rfl⟩
        rw [← hz] at hE hc
        have h7 : (z != 0) = true := by simpa using hc
        have HE := hide hE
        have HC := hide hc
        have HZ := hide hz
        have hs256 : s.size ≤ 256 := by omega
        clear hE hc hz hq
        go_enter Try.func38, Try.ntmps38
        go_wp2_with (go_at_call 61; refine (wcheck_any _ _ _).mono ?_; rintro e w' ⟨rfl, n1, rfl⟩; rw [← HZ.out])
        go_ret2
        exact ⟨_, by rw [HE.out]; rfl, ⟨[], Strs.nil_ _ _, fun h => absurd (HE.out ▸ h) HC.out, fun _ => rfl⟩, belowN (Below.refl _ _) _⟩
set_option maxRecDepth 100000 in
set_option maxHeartbeats 1000000 in
theorem rball_any (s : ByteArray) (n : Int) (hs : s.size ≤ 12 ∨ ckl [s] ≠ 0) (w : World) :
    Calls Try.prog 49 #[.string s, .int .i64 n] w fun e w' => ∃ vl, e = .returned (.tuple #[vl, .int .i64 (bErr s n)]) ∧ (∃ rs, Strs w' w.heap.size vl rs ∧ (bErr s n = 0 → BallRes s n.toNat rs) ∧ (bErr s n ≠ 0 → rs = [])) ∧ Below w.heap.size w w' := by
  have C0 := fun W => rchk_one s W
  by_cases hc : ckl [s] = 0
  · have hs12 : s.size ≤ 12 := hs.resolve_right (fun h => h hc)
    by_cases hin : n < 0 ∨ (s.size : Int) < n
    · have hE : bErr s n = 2 := by unfold bErr; rw [if_neg (by simpa using hc), if_pos hin]
      have HE := hide hE
      rw [hc] at C0
      have H0 := hide C0
      clear hc C0 hE hs
      by_cases hneg : n < 0
      · have h1 : decide (n < 0) = true := by simpa using hneg
        go_enter Try.func49, Try.ntmps49
        go_wp2_with fail
        refine (H0.out _).mono ?_
        rintro e w1 ⟨rfl, rfl⟩
        go_wp2
        go_ret2
        exact ⟨_, by rw [HE.out]; rfl, ⟨[], Strs.nil_ _ _, fun h => absurd (HE.out ▸ h) (by omega), fun _ => rfl⟩, Below.refl _ _⟩
      · have h2 : (s.size : Int) < n := hin.resolve_left hneg
        have h1 : decide (n < 0) = false := by simpa using hneg
        clear hin
        go_enter Try.func49, Try.ntmps49
        go_wp2_with fail
        refine (H0.out _).mono ?_
        rintro e w1 ⟨rfl, rfl⟩
        go_wp2
        go_ret2
        exact ⟨_, by rw [HE.out]; rfl, ⟨[], Strs.nil_ _ _, fun h => absurd (HE.out ▸ h) (by omega), fun _ => rfl⟩, Below.refl _ _⟩
    · have hE : bErr s n = 0 := by unfold bErr; rw [if_neg (by simpa using hc), if_neg hin]
      obtain ⟨m, rfl⟩ : ∃ m : Nat, n = m := ⟨n.toNat, by omega⟩
      refine (rball_ok s m hs12 (by omega) hc w).mono ?_
      rintro e w' ⟨vl, rfl, ⟨rs, h1, h2⟩, h3⟩
      exact ⟨vl, by rw [hE], ⟨rs, h1, fun _ => h2, fun h => absurd hE h⟩, h3⟩
  · have h7 : (ckl [s] != 0) = true := by simpa using hc
    have hE : bErr s n = ckl [s] := by unfold bErr; rw [if_pos hc]
    have HC := hide hc
    obtain ⟨z, hz⟩ : ∃ z, z = ckl [s] := ⟨_, rfl⟩
    rw [hE]
    rw [← hz] at h7 C0 ⊢
    have HZ := hide hz
    have H0 := hide C0
    clear hc hz C0 hE
    go_enter Try.func49, Try.ntmps49
    go_wp2_with fail
    refine (H0.out _).mono ?_
    rintro e w1 ⟨rfl, rfl⟩
    go_wp2
    go_ret2
    exact ⟨_, rfl, ⟨[], Strs.nil_ _ _, fun h => absurd (HZ.out ▸ h) HC.out, fun _ => rfl⟩, Below.refl _ _⟩
end Go.Proofs.Ytmajalpmbppkpaa
