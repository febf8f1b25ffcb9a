/- indel.Confusable; slices.ContainsFunc with the function value of TenengoltsDisjoint (from XRPair and XConW). -/
import Derived.Test.YtijeogengbphdaaDelP
import Derived.Test.YtijeogengbphdaaConB
set_option linter.unusedVariables false
namespace Go.Proofs.Ytijeogengbphdaa
open Go.RowKit
def confV (u v : ByteArray) (n : Int) : Bool × Int :=
  if ckl [u, v] ≠ 0 then (false, ckl [u, v]) else if u.size ≠ v.size then (false, 11) else if n < 0 ∨ (u.size : Int) < n then (false, 2) else (decide ((dst u v : Int) ≤ 2 * n), 0)
set_option maxRecDepth 100000 in
set_option maxHeartbeats 1000000 in
theorem iconf_any (u v : ByteArray) (n : Int) (w : World) :
    Calls Try.prog 36 #[.string u, .string v, .int .i64 n] w fun e w' => e = .returned (.tuple #[.bool (confV u v n).1, .int .i64 (confV u v n).2]) ∧ Below w.heap.size w w' := by
  have hrow : ∀ k (hk : k < [u, v].length), (w.alloc (Obj.cells #[Value.string u, Value.string v] 9)).cell? ⟨w.heap.size, k, none⟩ = some (.string [u, v][k]) := fun k hk => Strs.cell (Strs.lit w [u, v] (Nat.le_refl _) (by simp) _ rfl) hk
  have HI := icheck_any [u, v] w.heap.size 2 _ hrow (by simp)
  have HB0 := (Below.refl w.heap.size w).alloc (Nat.le_refl _) (Obj.cells #[Value.string u, Value.string v] 9)
  have HBB := hide HB0
  clear hrow HB0
  by_cases hc : ckl [u, v] = 0
  · have hs := ckl_sizes hc
    have hu : u.size ≤ 256 := hs u (by simp)
    have hv : v.size ≤ 256 := hs v (by simp)
    rw [hc] at HI
    have HII := hide HI
    by_cases he : u.size = v.size
    · have heb : ((u.size : Int) != (v.size : Int)) = false := by rw [bne_eq_false_iff_eq]; omega
      by_cases hr : n < 0 ∨ (u.size : Int) < n
      · have HD := hide (show confV u v n = (false, 2) by unfold confV; rw [if_neg (by simpa using hc), if_neg (by simpa using he), if_pos hr])
        clear hc hs HI he
        by_cases h1 : n < 0
        · have hd1 : decide (n < 0) = true := decide_eq_true h1
          clear hr
          go_enter Try.func36, Try.ntmps36
          go_wp2_with fail
          refine HII.out.mono ?_
          rintro e w1 ⟨rfl, q, rfl⟩
          go_wp2
          go_ret2
          exact ⟨by rw [HD.out]; rfl, belowN HBB.out q⟩
        · have hd1 : decide (n < 0) = false := decide_eq_false h1
          have hd2 : decide ((u.size : Int) < n) = true := decide_eq_true (by omega)
          clear hr
          go_enter Try.func36, Try.ntmps36
          go_wp2_with fail
          refine HII.out.mono ?_
          rintro e w1 ⟨rfl, q, rfl⟩
          go_wp2
          go_ret2
          exact ⟨by rw [HD.out]; rfl, belowN HBB.out q⟩
      · have hdl := dist_lcs u.data.toList v.data.toList
        obtain ⟨hl1, hl2⟩ := lcsAt_le0 u v
        have HD := hide (show confV u v n = (decide ((u.size : Int) - (lcsAt u v 0 0 : Int) ≤ n), 0) by
          unfold confV
          rw [if_neg (by simpa using hc), if_neg (by simpa using he), if_neg hr]
          congr 1
          rw [lcsAt_zero]
          simp at hdl
          unfold dst
          exact decide_eq_decide.2 (by omega))
        have hd1 : decide (n < 0) = false := decide_eq_false (by omega)
        have hd2 : decide ((u.size : Int) < n) = false := decide_eq_false (by omega)
        obtain ⟨L, hL⟩ : ∃ L, L = lcsAt u v 0 0 := ⟨_, rfl⟩
        rw [← hL] at HD hl1 hl2
        have HL := hide hL
        clear hc hs HI hL he hr hdl
        obtain ⟨B, hB⟩ : ∃ B, w.heap.size + 1 = B := ⟨_, rfl⟩
        go_enter Try.func36, Try.ntmps36
        go_wp2_with fail
        refine HII.out.mono ?_
        rintro e w1 ⟨rfl, q, rfl⟩
        go_wp2_with fail
        refine (table_b u v hu hv _ B (by simp [hB])).mono ?_
        rintro e w2 ⟨rfl, hT, hB2⟩
        go_wp2_with fail
        refine (tab_at0 u v hu hv B w2 hT).mono ?_
        rintro e w3 ⟨rfl, hT3, hB3⟩
        rw [← HL.out]
        have hB4 := (belowN HBB.out q).trans ((hB2.trans (hB3.below (by omega))).mono (by omega))
        clear hT hT3 hB2 hB3
        go_wp2
        go_ret2
        exact ⟨by rw [HD.out]; rfl, hB4⟩
    · have heb : ((u.size : Int) != (v.size : Int)) = true := by rw [bne_iff_ne]; omega
      have HD := hide (show confV u v n = (false, 11) by unfold confV; rw [if_neg (by simpa using hc), if_pos he])
      clear hc hs HI he
      go_enter Try.func36, Try.ntmps36
      go_wp2_with fail
      refine HII.out.mono ?_
      rintro e w1 ⟨rfl, q, rfl⟩
      go_wp2
      go_ret2
      exact ⟨by rw [HD.out]; rfl, belowN HBB.out q⟩
  · have h7 : (ckl [u, v] != 0) = true := by simpa using hc
    have HD := hide (show confV u v n = (false, ckl [u, v]) by unfold confV; rw [if_pos hc])
    obtain ⟨z, hz⟩ : ∃ z, z = ckl [u, v] := ⟨_, rfl⟩
    rw [← hz] at h7 HD HI
    have HII := hide HI
    clear hc hz HI
    go_enter Try.func36, Try.ntmps36
    go_wp2_with fail
    refine HII.out.mono ?_
    rintro e w1 ⟨rfl, q, rfl⟩
    go_wp2
    go_ret2
    exact ⟨by rw [HD.out]; rfl, belowN HBB.out q⟩
set_option maxRecDepth 100000 in
set_option maxHeartbeats 400000 in
theorem conff_any (ys : List ByteArray) (A : Option Addr) (c B : Nat) (x : ByteArray) (w : World) (hB : w.cell? ⟨B, 0, none⟩ = some (.slice A ys.length c)) (hR : RowS w A ys) (hb : ys.length ≤ 4294967296) :
    Calls Try.prog 38 #[.string x, .pointer (some ⟨B, 0, none⟩)] w fun e w' => e = .returned (.bool (hasB x ys)) ∧ ∃ q, w' = w.drewN q := by
  have HI := hide (con_any ys x A c w hR hb)
  clear hR
  go_enter Try.func38, Try.ntmps38
  go_wp2_with fail
  refine HI.out.mono ?_
  rintro e w1 ⟨rfl, q, rfl⟩
  go_wp2
  go_ret
  exact ⟨rfl, q, rfl⟩
set_option maxRecDepth 100000 in
set_option maxHeartbeats 1000000 in
theorem idxcf_any (xs ys : List ByteArray) (A A2 : Option Addr) (c c2 B : Nat) (w : World) (hB : w.cell? ⟨B, 0, none⟩ = some (.slice A2 ys.length c2)) (hR2 : RowS w A2 ys) (hR : RowS w A xs) (hb : xs.length ≤ 4294967296) (hb2 : ys.length ≤ 4294967296) :
    Calls Try.prog 69 #[.slice A xs.length c, .func (.func 38) #[] #[.pointer (some ⟨B, 0, none⟩)]] w fun e w' => (∃ z : Int, e = .returned (.int .i64 z) ∧ decide (0 ≤ z) = xs.any fun x => hasB x ys) ∧ ∃ q, w' = w.drewN q := by
  have HR := hide hR
  have HF := hide (fun q a => conff_any ys A2 c2 B a (w.drewN q) hB (hR2.drewN q) hb2)
  clear hR hR2 hB
  go_enter Try.func69, Try.ntmps69
  go_wp2
  go_loopw [8] (fun i wr => ∃ k q : Nat, k ≤ xs.length ∧ i = .int .i64 k ∧ Hid (∀ j (hj : j < xs.length), j < k → hasB xs[j] ys = false) ∧ wr = w.drewN q) (fun i _ => xs.length - (intOf i).toNat)
  case atStart => exact ⟨0, 0, Nat.zero_le _, rfl, hide fun j _ h => absurd h (by omega), rfl⟩
  case round =>
    obtain ⟨k, q, hk, rfl, hs, rfl⟩ := hrel
    by_cases hlt : k < xs.length
    · obtain ⟨a0, rfl, hab, hcell⟩ := (HR.out.drewN q) (by omega)
      have c1 := hcell k hlt
      obtain ⟨a, ha⟩ : ∃ a, a = xs[k] := ⟨_, rfl⟩
      rw [← ha] at c1
      have HA := hide ha
      clear ha hcell
      have hk0 : (0 : Int) ≤ (k : Int) := by omega
      have hk1 : (k : Int) < (xs.length : Int) := by omega
      by_cases h6 : hasB a ys = true
      · have H6 := hide h6
        clear h6
        go_wp2_with (go_at_call 38; refine (HF.out q a).mono ?_; rintro e w1 ⟨rfl, n1, rfl⟩; rw [H6.out])
        go_ret
        refine ⟨⟨k, rfl, ?_⟩, q + n1, by simp⟩
        have : (xs.any fun x => hasB x ys) = true := by
          rw [List.any_eq_true]
          exact ⟨xs[k], List.getElem_mem hlt, by rw [← HA.out, H6.out]⟩
        rw [this]; simp
      · have H6 := hide (show hasB a ys = false by simpa using h6)
        clear h6
        go_wp2_with (go_at_call 38; refine (HF.out q a).mono ?_; rintro e w1 ⟨rfl, n1, rfl⟩; rw [H6.out])
        go_roundw
        case rel =>
          refine ⟨k + 1, q + n1, by omega, by go_num, hide fun j hj hjk => ?_, by simp⟩
          by_cases e : j < k
          · exact hs.out j hj e
          · obtain rfl : j = k := by omega
            rw [← HA.out]; exact H6.out
        case measure => simp [intOf]; omega
    · obtain rfl : k = xs.length := by omega
      go_wp2
      go_ret
      refine ⟨⟨-1, rfl, ?_⟩, q, rfl⟩
      have : (xs.any fun x => hasB x ys) = false := by
        rw [List.any_eq_false]
        intro x hx
        obtain ⟨j, hj, rfl⟩ := List.getElem_of_mem hx
        rw [hs.out j hj hj]; simp
      rw [this]; rfl
set_option maxRecDepth 100000 in
set_option maxHeartbeats 1000000 in
theorem contcf_any (xs ys : List ByteArray) (A A2 : Option Addr) (c c2 B : Nat) (w : World) (hB : w.cell? ⟨B, 0, none⟩ = some (.slice A2 ys.length c2)) (hR2 : RowS w A2 ys) (hR : RowS w A xs) (hb : xs.length ≤ 4294967296) (hb2 : ys.length ≤ 4294967296) :
    Calls Try.prog 37 #[.slice A xs.length c, .func (.func 38) #[] #[.pointer (some ⟨B, 0, none⟩)]] w fun e w' => e = .returned (.bool (xs.any fun x => hasB x ys)) ∧ ∃ q, w' = w.drewN q := by
  have HI := hide (idxcf_any xs ys A A2 c c2 B w hB hR2 hR hb hb2)
  clear hR hR2 hB
  go_enter Try.func37, Try.ntmps37
  go_wp2_with fail
  refine HI.out.mono ?_
  rintro e w1 ⟨⟨z, rfl, hz⟩, q, rfl⟩
  have HZ := hide hz
  clear hz
  go_wp2
  go_ret
  exact ⟨by rw [← HZ.out]; rfl, q, rfl⟩
/-- a shorter subsequence comes of one deletion from one with a letter more -/
theorem sub_up : ∀ {s x : List UInt8}, x.Sublist s → x.length < s.length → ∃ y i, y.Sublist s ∧ y.length = x.length + 1 ∧ i < y.length ∧ x = DL y i
  | [], x, h, hl => by simp at hl
  | a :: s, x, h, hl => by
    cases h with
    | cons _ h => exact ⟨a :: x, 0, h.cons_cons a, rfl, by simp, by simp [DL]⟩
    | cons_cons _ h =>
      rename_i x'
      obtain ⟨y, i, h1, h2, h3, h4⟩ := sub_up h (by simpa using hl)
      exact ⟨a :: y, i + 1, h1.cons_cons a, by simp [h2], by simp; exact h3, by rw [h4]; simp [DL]⟩
end Go.Proofs.Ytijeogengbphdaa
