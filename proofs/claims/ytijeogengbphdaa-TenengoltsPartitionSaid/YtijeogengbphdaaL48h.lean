/- The walk of the law TenengoltsPartition. -/
import Derived.Test.YtijeogengbphdaaCmpN
import Derived.Test.YtijeogengbphdaaPow
import Derived.Test.YtijeogengbphdaaParP
import Derived.Test.YtijeogengbphdaaTSiz
import Derived.Test.YtijeogengbphdaaAwake48
import Derived.Test.YtijeogengbphdaaSyn
import Derived.Test.YtijeogengbphdaaConB
import Derived.OpenShut
set_option linter.unusedVariables false
namespace Go.Proofs.Ytijeogengbphdaa
open Go.RowKit
/-! ### plain -/
theorem put_list (w : ByteArray) (i : Nat) (h : i = 0 ∨ i = 1) : (put w i).data.toList = w.data.toList ++ [if i = 0 then 48 else 49] := by
  unfold put
  have ha : ∀ a b : ByteArray, (a ++ b).data.toList = a.data.toList ++ b.data.toList := fun a b => by simp
  rw [ha]
  rcases h with rfl | rfl <;> rfl
theorem mem_allB : ∀ (n : Nat) (l : List UInt8), l.length = n → bin l → (⟨l.toArray⟩ : ByteArray) ∈ allB n
  | 0, l, h, _ => by rw [List.eq_nil_of_length_eq_zero h]; exact List.mem_singleton.2 rfl
  | n + 1, l, h, hb => by
    have hne : l ≠ [] := by intro e; rw [e] at h; simp at h
    have hl := List.dropLast_concat_getLast hne
    have hm := mem_allB n l.dropLast (by rw [List.length_dropLast, h]; rfl) (fun c hc => hb c (by
      have h9 : c ∈ l.dropLast ++ [l.getLast hne] := List.mem_append_left _ hc
      rwa [hl] at h9))
    have hc := hb _ (List.getLast_mem hne)
    unfold allB
    rw [List.mem_flatMap]
    refine ⟨_, hm, ?_⟩
    have key : ∀ i, (i = 0 ∨ i = 1) → l.getLast hne = (if i = 0 then 48 else 49) → (⟨l.toArray⟩ : ByteArray) = put ⟨l.dropLast.toArray⟩ i := fun i hi he => by
      have h1 := put_list ⟨l.dropLast.toArray⟩ i hi
      rw [← he] at h1
      have h2 : (put ⟨l.dropLast.toArray⟩ i).data.toList = l := by rw [h1]; simpa using hl
      exact (ba_of h2).symm
    rcases hc with hc | hc
    · rw [key 0 (.inl rfl) (by rw [hc]; rfl)]; simp
    · rw [key 1 (.inr rfl) (by rw [hc]; rfl)]; simp
theorem has_words {s : ByteArray} (h8 : s.size ≤ 8) (hc : chk 2 s.data.toList = 0) {k : Nat} (hk : k ≤ s.size) :
    (words (s.size : Int) (k : Int)).2 = 0 ∧ hasB s (words (s.size : Int) (k : Int)).1 = ((k : Int) == ((synd s.data.toList : Nat) : Int)) := by
  have ht : tck (s.size : Int) (k : Int) = 0 := by unfold tck; rw [if_neg (by omega)]
  have e : words (s.size : Int) (k : Int) = ((allB s.size).filter (fun u => ((synd u.data.toList : Nat) : Int) == (k : Int)), 0) := by
    unfold words; rw [if_neg (fun h => h ht), if_neg (by omega)]; rfl
  rw [e]
  refine ⟨rfl, ?_⟩
  have hm : s ∈ allB s.size := by
    have := mem_allB s.size s.data.toList (by simp) (bin_of_chk hc).1
    have e2 : (⟨s.data.toList.toArray⟩ : ByteArray) = s := (ba_of rfl).symm
    rwa [e2] at this
  by_cases hs : ((synd s.data.toList : Nat) : Int) = (k : Int)
  · rw [hs, hasB_iff.2 (List.mem_filter.2 ⟨hm, by rw [hs]; simp⟩)]; simp
  · rw [hasB_no (fun h => hs (by simpa using (List.mem_filter.1 h).2)), Eq.comm, beq_eq_false_iff_ne]; exact fun h => hs h.symm
theorem words_len2 (n a : Int) : (words n a).1.length ≤ 4096 := by
  unfold words
  split
  · simp
  · split
    · simp
    · rename_i h h2
      refine Nat.le_trans (List.length_filter_le _ _) ?_
      rw [len_allB]
      exact pow_bound (by omega)
set_option maxRecDepth 100000 in
set_option maxHeartbeats 4000000 in
theorem lPartition_any (s : ByteArray) (n a : Int) (hs : s.size ≤ maxLen) (hn : (Lit.int .u8 n).wf = true) (ha : (Lit.int .u8 a).wf = true) (w : World) :
    Calls Try.prog 8 #[.string s, .int .u8 n, .int .u8 a] w fun e w' => e = .returned (.bool true) ∧ Below w.heap.size w w' := by
  have HW := hide (fun W => awake48_any W)
  have hn0 := bounds_u8 hn
  have ha0 := bounds_u8 ha
  obtain ⟨n, rfl⟩ := Int.eq_ofNat_of_zero_le hn0.1
  obtain ⟨a, rfl⟩ := Int.eq_ofNat_of_zero_le ha0.1
  clear hn ha
  obtain ⟨m, hmn⟩ : ∃ m, m = n % 41 := ⟨_, rfl⟩
  have hm40 : m ≤ 40 := by omega
  have hmi : (n : Int) % 41 = (m : Int) := by omega
  obtain ⟨c, hcc⟩ : ∃ c : Nat → Nat, c = fun k => (cnts m m).getD k 0 := ⟨_, rfl⟩
  obtain ⟨hsum, hpos⟩ := sizes_ok hm40
  rw [← hcc] at hsum
  replace hpos : ∀ k, k ≤ m → 0 < c k ∧ c k ≤ c 0 := fun k hk => by rw [hcc]; exact hpos k hk
  have hp64 : 2 ^ m ≤ 18446744073709551616 := Nat.le_trans (Nat.pow_le_pow_right (show 0 < 2 by decide) (show m ≤ 64 by omega)) (by decide)
  have hSp : ∀ k, k ≤ m + 1 → Sml (psum c k) := fun k hk => Sml.of64 (Nat.le_trans (Nat.le_trans (psum_le c hk) (Nat.le_of_eq hsum)) hp64)
  have hSc : ∀ k, k ≤ m → Sml (c k) := fun k hk => Sml.of64 (by
    have h1 := psum_le c (show k + 1 ≤ m + 1 by omega)
    have h2 : psum c (k + 1) = psum c k + c k := rfl
    omega)
  have HSz : Hid (∀ k, k ≤ m → ∀ W : World, Calls Try.prog 27 #[.int .i64 (m : Int), .int .i64 (k : Int)] W fun e w' => e = .returned (.tuple #[.agg #[.bool false, .string (mg (c k))], .int .i64 0]) ∧ Below W.heap.size W w') := hide (fun k hk W => by
    have h := tSize_any (m : Int) (k : Int) W
    have ht : tck (m : Int) (k : Int) = 0 := by unfold tck; rw [if_neg (by omega)]
    have hz : sizeN (m : Int) (k : Int) = c k := by unfold sizeN; rw [if_neg (fun h => h ht), hcc]; simp
    rw [ht, hz] at h
    exact h)
  have HSP := hide hSp
  have HSC := hide hSc
  have HPOS := hide hpos
  have HSUM := hide hsum
  clear hsum hpos hp64 hSp hSc hcc hmn
  obtain ⟨N, hN⟩ : ∃ N, N = m + 1 := ⟨_, rfl⟩
  have hNi : (m : Int) + 1 = (N : Int) := by omega
  have hN1 : 0 < N := by omega
  have HN := hide hN
  clear hN
  by_cases hb : (s.size : Int) ≤ 8 ∧ chk 2 s.data.toList = 0
  · obtain ⟨h8, hc⟩ := hb
    have HB := hide (fun W => binary_t s 8 W h8 hc)
    have HSY : Hid (∀ W : World, Calls Try.prog 15 #[.string s] W fun e w' => e = .returned (.tuple #[.int .i64 ((synd s.data.toList : Nat) : Int), .int .i64 0]) ∧ ∃ q, w' = W.drewN q) := hide (fun W => by
      have := tsyn_any s W
      have e : synV s.data.toList = (((synd s.data.toList : Nat) : Int), 0) := by unfold synV; rw [if_pos hc]
      rw [e] at this
      exact this)
    have hsl : synd s.data.toList ≤ s.size := by
      unfold synd
      have := Nat.mod_lt (sumS s.data.toList 0) (show 0 < s.data.toList.length + 1 by omega)
      rw [size_data] at this ⊢
      omega
    have HWD := hide (fun k (hk : k ≤ s.size) => has_words (by omega) hc hk)
    have HWC := hide (fun k W => twords_any (s.size : Int) (k : Int) W)
    obtain ⟨t, ht⟩ : ∃ t, t = synd s.data.toList := ⟨_, rfl⟩
    rw [← ht] at hsl HSY HWD
    have h8' : s.size ≤ 8 := by omega
    obtain ⟨M, hM⟩ : ∃ M, M = s.size + 1 := ⟨_, rfl⟩
    have hMi : (s.size : Int) + 1 = (M : Int) := by omega
    have HM := hide hM
    have b1 : decide ((t : Int) < 0) = false := decide_eq_false (by omega)
    have b2 : decide ((s.size : Int) < (t : Int)) = false := decide_eq_false (by omega)
    have b3 : decide (s.size < t) = false := decide_eq_false (by omega)
    clear hc ht hM
    go_enter Try.func8, Try.ntmps8
    go_wp2_with fail
    refine (HB.out _).mono ?_
    rintro e w1 ⟨rfl, rfl⟩
    go_wp2_with fail
    refine (HSY.out _).mono ?_
    rintro e w1 ⟨rfl, q1, rfl⟩
    have hA0 : Below w.heap.size w (w.drewN q1) := belowN (Below.refl _ _) q1
    generalize w.drewN q1 = w1 at hA0 ⊢
    go_wp2
    go_loopw [47] (fun iv wr => ∃ k : Nat, iv = .int .i64 k ∧ k ≤ M ∧ Below w.heap.size w wr) (fun iv _ => M - (intOf iv).toNat)
    case atStart => exact ⟨0, rfl, Nat.zero_le _, hA0⟩
    case round =>
      obtain ⟨k, rfl, hk, hB⟩ := hrel
      clear hA0
      by_cases hlt : k < M
      · obtain ⟨f1, f2⟩ := HWD.out k (by have := HM.out; omega)
        have HC := HWC.out k wr
        have hl := words_len2 (s.size : Int) (k : Int)
        obtain ⟨xs, ys, hxy⟩ : ∃ xs ys, (xs, ys) = words (s.size : Int) (k : Int) := ⟨_, _, rfl⟩
        rw [← hxy] at f1 f2 HC hl
        replace f1 : ys = 0 := f1
        subst f1
        have HC' := hide HC
        have F2 := hide f2
        clear hxy HC f2
        go_wp2_with fail
        refine HC'.out.mono ?_
        rintro e W2 ⟨v, rfl, hv, hB2⟩
        obtain ⟨A, cA, rfl, hrow⟩ := strs_row hv
        have HK := hide (con_any xs s A cA W2 hrow (by omega))
        clear hv hrow HC'
        go_wp2_with fail
        refine HK.out.mono ?_
        rintro e W3 ⟨rfl, q3, rfl⟩
        rw [F2.out]
        have hB4 : Below w.heap.size w (W2.drewN q3) := belowN (hB.trans (hB2.mono hB.size)) q3
        generalize W2.drewN q3 = W3 at hB4 ⊢
        clear HK hB2
        have hxx : ((((k : Int) == (t : Int)) != ((k : Int) == (t : Int))) = false) := by simp
        go_wp2
        go_roundw
        case rel => exact ⟨k + 1, by go_num, hlt, hB4⟩
        case measure => simp [intOf]; omega
      · obtain rfl : k = M := by omega
        have hSB0 := ResI.new_ wr false ⟨#[]⟩
        have hB1 : Below w.heap.size w (wr.alloc (Obj.cells #[Value.bool false, Value.string ⟨#[]⟩] 39)) := hB.alloc hB.size _
        have hss : (wr.alloc (Obj.cells #[Value.bool false, Value.string ⟨#[]⟩] 39)).heap.size = wr.heap.size + 1 := by simp
        obtain ⟨S, hS⟩ : ∃ S, wr.heap.size = S := ⟨_, rfl⟩
        have hwS : w.heap.size ≤ S := by rw [← hS]; exact hB.size
        rw [hS] at hSB0 hss
        clear hB
        go_wp2_with fail
        generalize wr.alloc (Obj.cells #[Value.bool false, Value.string ⟨#[]⟩] 39) = W1 at hSB0 hB1 hss ⊢
        rw [show (⟨#[]⟩ : ByteArray) = mg (psum c 0) from mg_zero.symm] at hSB0
        rw [hmi]
        go_loopw [74] (fun iv wr => ∃ k : Nat, iv = .int .i64 k ∧ k ≤ N ∧ ResI wr S false (mg (psum c k)) ∧ S < wr.heap.size ∧ Below w.heap.size w wr) (fun iv _ => N - (intOf iv).toNat)
        case atStart => exact ⟨0, rfl, Nat.zero_le _, hSB0, by omega, hB1⟩
        case round =>
          obtain ⟨k, rfl, hk, hR, hSl, hB⟩ := hrel
          clear hSB0 hB1 hss
          by_cases hlt : k < N
          · have hkm : k ≤ m := by have := HN.out; omega
            have HZ := hide (HSz.out k hkm wr)
            have HA := hide (fun W => iAdd_agg (psum c k) (c k) W (HSP.out k (by omega)) (HSC.out k hkm))
            go_wp2_with fail
            refine HZ.out.mono ?_
            rintro e W2 ⟨rfl, hB2⟩
            have hR2 := hR.below hB2 hSl
            have hB3 := hB.trans (hB2.mono hB.size)
            have hs2 := hB2.size
            have hX := ResI.new_ W2 false (mg (c k))
            have hA2 : Below W2.heap.size W2 (W2.alloc (.cells #[.bool false, .string (mg (c k))] 39)) := (Below.refl _ W2).alloc (Nat.le_refl _) _
            have hR3 := hR2.below hA2 (by omega)
            have hB4 := hB3.trans (hA2.mono hB3.size)
            have hs3 : (W2.alloc (.cells #[.bool false, .string (mg (c k))] 39)).heap.size = W2.heap.size + 1 := by simp
            have hSX : S < W2.heap.size := by omega
            clear hR hB hR2 hB2 hB3 HZ hA2
            have g0 := hR3.c0
            have g1 := hR3.c1
            go_wp2_with fail
            clear g0 g1
            generalize W2.alloc (.cells #[.bool false, .string (mg (c k))] 39) = W3 at hX hR3 hB4 hs3 ⊢
            refine (HA.out W3).mono ?_
            rintro e W4 ⟨rfl, hB5⟩
            have hR5 := hR3.below hB5 (by omega)
            have hB6 := hB4.trans (hB5.mono hB4.size)
            have hs4 := hB5.size
            have f0 := hR5.c0
            have f1 := hR5.c1
            have z0 := hR5.z0
            have z1 := hR5.z1
            have hR7 := hR5.set_ false (mg (psum c k + c k))
            have hB7 := Below.pair hB6 hwS (.bool false) (.string (mg (psum c k + c k)))
            have hs7 := (Below.pair (Below.refl 0 W4) (Nat.zero_le S) (.bool false) (.string (mg (psum c k + c k)))).size
            clear hX hR3 hB4 HA hB5 hB6
            go_wp2
            go_roundw
            case rel => exact ⟨k + 1, by go_num, hlt, hR7, by omega, hB7⟩
            case measure => simp [intOf]; omega
          · obtain rfl : k = N := by omega
            have hq : ((a : Int)).tmod ((m : Int) + 1) = ((a % (m + 1) : Nat) : Int) := by
              rw [Int.tmod_eq_emod_of_nonneg (by omega), Int.natCast_emod, Int.natCast_add]; rfl
            rw [hNi] at hq
            obtain ⟨q, hqq⟩ : ∃ q, q = a % (m + 1) := ⟨_, rfl⟩
            rw [← hqq] at hq
            have hqm : q ≤ m := by rw [hqq]; have := Nat.mod_lt a (show 0 < m + 1 by omega); omega
            have hN0 : ((k : Int) == 0) = false := by rw [beq_eq_false_iff_ne]; omega
            have hps : psum c k = 2 ^ m := by rw [HN.out]; exact HSUM.out
            rw [hps] at hR
            have HO := hide (fun W => iOf_agg 2 (by decide) W)
            have HPW : Hid (∀ W : World, Calls Try.prog 32 #[.agg #[.bool false, .string (mg 2)], .int .i64 (m : Int)] W fun e w' => e = .returned (.tuple #[.agg #[.bool false, .string (mg (2 ^ m))], .int .i64 0]) ∧ Below W.heap.size W w') := hide (fun W => iPower_two m hm40 W)
            have HZ0 : Hid (∀ W : World, Calls Try.prog 27 #[.int .i64 (m : Int), .int .i64 0] W fun e w' => e = .returned (.tuple #[.agg #[.bool false, .string (mg (c 0))], .int .i64 0]) ∧ Below W.heap.size W w') := hide (fun W => HSz.out 0 (Nat.zero_le _) W)
            have HZq := hide (fun W => HSz.out q hqm W)
            have HCM := hide (fun W => iCompare_ge (c 0) (c q) (HPOS.out q hqm).2 (HPOS.out q hqm).1 (HSC.out 0 (Nat.zero_le _)) (HSC.out q hqm) W)
            generalize mg (2 ^ m) = x1 at hR HPW
            generalize mg (c 0) = x2 at HZ0 HCM
            generalize mg (c q) = x3 at HZq HCM
            clear hqq hps
            go_wp2_with fail
            refine (HO.out wr).mono ?_
            rintro e W5 ⟨rfl, hB5⟩
            have kS := hR.below hB5 hSl
            have hB6 := hB.trans (hB5.mono hB.size)
            have hl5 := Nat.lt_of_lt_of_le hSl hB5.size
            clear hR hB hB5 HO
            go_wp2_with fail
            refine (HPW.out W5).mono ?_
            rintro e W6 ⟨rfl, hB7⟩
            replace kS := kS.below hB7 hl5
            replace hl5 := Nat.lt_of_lt_of_le hl5 hB7.size
            replace hB6 := hB6.trans (hB7.mono hB6.size)
            clear hB7 HPW
            have hXA := ResI.new_ W6 false x1
            have hAA : Below W6.heap.size W6 (W6.alloc (.cells #[.bool false, .string x1] 39)) := (Below.refl _ W6).alloc (Nat.le_refl _) _
            have hsA : (W6.alloc (.cells #[.bool false, .string x1] 39)).heap.size = W6.heap.size + 1 := by simp
            replace kS := kS.below hAA hl5
            have kA := hXA
            replace hB6 := hB6.trans (hAA.mono hB6.size)
            obtain ⟨A, hAeq⟩ : ∃ A, W6.heap.size = A := ⟨_, rfl⟩
            rw [hAeq] at kA hsA hl5
            go_wp2_with fail
            generalize W6.alloc (.cells #[.bool false, .string x1] 39) = W7 at kS kA hB6 hsA ⊢
            clear hXA hAA hAeq
            refine (HZ0.out W7).mono ?_
            rintro e W8 ⟨rfl, hB8⟩
            replace kS := kS.below hB8 (by omega)
            replace kA := kA.below hB8 (by omega)
            have hl8 : A + 1 ≤ W8.heap.size := by have := hB8.size; omega
            replace hB6 := hB6.trans (hB8.mono hB6.size)
            clear hB8 HZ0 hsA
            have hXF := ResI.new_ W8 false x2
            have hAF : Below W8.heap.size W8 (W8.alloc (.cells #[.bool false, .string x2] 39)) := (Below.refl _ W8).alloc (Nat.le_refl _) _
            have hsF : (W8.alloc (.cells #[.bool false, .string x2] 39)).heap.size = W8.heap.size + 1 := by simp
            replace kS := kS.below hAF (by omega)
            replace kA := kA.below hAF (by omega)
            have kF := hXF
            replace hB6 := hB6.trans (hAF.mono hB6.size)
            obtain ⟨F, hFeq⟩ : ∃ F, W8.heap.size = F := ⟨_, rfl⟩
            rw [hFeq] at kF hsF hl8
            go_wp2_with fail
            generalize W8.alloc (.cells #[.bool false, .string x2] 39) = W9 at kS kA kF hB6 hsF ⊢
            clear hXF hAF hFeq
            refine (HZq.out W9).mono ?_
            rintro e W10 ⟨rfl, hB10⟩
            replace kS := kS.below hB10 (by omega)
            replace kA := kA.below hB10 (by omega)
            replace kF := kF.below hB10 (by omega)
            have hl10 : F + 1 ≤ W10.heap.size := by have := hB10.size; omega
            replace hB6 := hB6.trans (hB10.mono hB6.size)
            clear hB10 HZq hsF
            have hXO := ResI.new_ W10 false x3
            have hAO : Below W10.heap.size W10 (W10.alloc (.cells #[.bool false, .string x3] 39)) := (Below.refl _ W10).alloc (Nat.le_refl _) _
            have hsO : (W10.alloc (.cells #[.bool false, .string x3] 39)).heap.size = W10.heap.size + 1 := by simp
            replace kS := kS.below hAO (by omega)
            replace kA := kA.below hAO (by omega)
            replace kF := kF.below hAO (by omega)
            have kO := hXO
            replace hB6 := hB6.trans (hAO.mono hB6.size)
            have g0 := kS.c0
            have g1 := kS.c1
            have g2 := kA.c0
            have g3 := kA.c1
            have g4 := kF.c0
            have g5 := kF.c1
            have g6 := kO.c0
            have g7 := kO.c1
            have hmax : ∀ W, (Builtin.max_ #[23, 23, 23] 23 #[.int .i64 0, .int .i64 0, .int .i64 0]).run Try.prog W = .ok (.int .i64 0) W := fun _ => by kernel_rfl
            go_wp2_with fail
            clear g0 g1 g2 g3 g4 g5 g6 g7 hmax
            generalize W10.alloc (.cells #[.bool false, .string x3] 39) = W11 at hB6 ⊢
            clear kS kA kF kO hXO hAO hsO
            refine (HCM.out W11).mono ?_
            rintro e W12 ⟨⟨z, rfl, hz0⟩, hB12⟩
            have hB13 := hB6.trans (hB12.mono hB6.size)
            have hzd : decide (0 ≤ z) = true := decide_eq_true hz0
            go_wp2_with fail
            refine (HW.out W12).mono ?_
            rintro e W14 ⟨rfl, hB14⟩
            go_wp2
            go_ret
            exact ⟨rfl, hB13.trans (hB14.mono hB13.size)⟩
  · have HB := hide (fun W => binary_f s 8 W hb)
    clear hb
    go_enter Try.func8, Try.ntmps8
    go_wp2_with fail
    refine (HB.out _).mono ?_
    rintro e w1 ⟨rfl, rfl⟩
    go_wp2_with fail
    refine (HW.out _).mono ?_
    rintro e w2 ⟨rfl, hB2⟩
    go_wp2
    go_ret
    exact ⟨rfl, hB2⟩
end Go.Proofs.Ytijeogengbphdaa
