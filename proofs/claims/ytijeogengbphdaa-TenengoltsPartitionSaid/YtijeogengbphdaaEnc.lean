/- Contract of tenengolts.Encode: any number and any string. -/
import Derived.Test.YtijeogengbphdaaBytes
import Derived.RegionTactic
import Derived.ChangeAlike
set_option linter.unusedVariables false
namespace Go.Proofs.Ytijeogengbphdaa
open Go.RowKit

/-! ### plain -/
/-- the letter at the offset i, before the check letters are set -/
def encF (l : List UInt8) (i : Nat) : UInt8 := if isPow (i + 1) then 48 else l.getD (dataN i) 0
def encFirst (n : Nat) (l : List UInt8) : List UInt8 := (List.range n).map (encF l)
def encMiss (n : Nat) (l : List UInt8) : Nat := (n + 1 - synd (encFirst n l)) % (n + 1)
def encG (n : Nat) (l : List UInt8) (i : Nat) : UInt8 := if isPow (i + 1) && (encMiss n l &&& (i + 1)) != 0 then 49 else encF l i
def encOut (n : Nat) (l : List UInt8) : List UInt8 := (List.range n).map (encG n l)
def enc (n : Int) (l : List UInt8) : List UInt8 × Int :=
  if ¬ (0 ≤ n ∧ n ≤ 64) then ([], 2) else if chk 2 l ≠ 0 then ([], chk 2 l) else if l.length ≠ dataN n.toNat then ([], 11) else (encOut n.toNat l, 0)
/-- the first k letters are set -/
def fillTo (n : Nat) (l : List UInt8) (k : Nat) : List UInt8 := (List.range n).map fun i => if i < k then encF l i else 0
def markTo (n : Nat) (l : List UInt8) (k : Nat) : List UInt8 := (List.range n).map fun i => if i < k then encG n l i else encF l i
theorem len_fillTo (n : Nat) (l : List UInt8) (k : Nat) : (fillTo n l k).length = n := by simp [fillTo]
theorem len_markTo (n : Nat) (l : List UInt8) (k : Nat) : (markTo n l k).length = n := by simp [markTo]
theorem fillTo_zero (n : Nat) (l : List UInt8) : fillTo n l 0 = List.replicate n 0 := by
  apply List.ext_getElem <;> simp [fillTo]
theorem fillTo_all (n : Nat) (l : List UInt8) : fillTo n l n = encFirst n l := by
  apply List.ext_getElem
  · simp [fillTo, encFirst]
  · intro i h1 h2; simp [fillTo, encFirst] at h1 h2 ⊢; intro h; omega
theorem markTo_zero (n : Nat) (l : List UInt8) : markTo n l 0 = encFirst n l := by
  apply List.ext_getElem <;> simp [markTo, encFirst]
theorem markTo_all (n : Nat) (l : List UInt8) : markTo n l n = encOut n l := by
  apply List.ext_getElem
  · simp [markTo, encOut]
  · intro i h1 h2; simp [markTo, encOut] at h1 h2 ⊢; intro h; omega
theorem fillTo_set (n : Nat) (l : List UInt8) (k : Nat) (hk : k < n) : (fillTo n l k).set k (encF l k) = fillTo n l (k + 1) := by
  apply List.ext_getElem
  · simp [fillTo]
  · intro i h1 h2
    simp [fillTo] at h1 h2 ⊢
    rw [List.getElem_set]
    simp only [List.getElem_map, List.getElem_range]
    by_cases e : k = i
    · subst e; simp
    · rw [if_neg e]
      by_cases h : i < k
      · rw [if_pos h, if_pos (by omega)]
      · rw [if_neg h, if_neg (by omega)]
theorem markTo_set (n : Nat) (l : List UInt8) (k : Nat) (hk : k < n) : (markTo n l k).set k (encG n l k) = markTo n l (k + 1) := by
  apply List.ext_getElem
  · simp [markTo]
  · intro i h1 h2
    simp [markTo] at h1 h2 ⊢
    rw [List.getElem_set]
    simp only [List.getElem_map, List.getElem_range]
    by_cases e : k = i
    · subst e; simp
    · rw [if_neg e]
      by_cases h : i < k
      · rw [if_pos h, if_pos (by omega)]
      · rw [if_neg h, if_neg (by omega)]
theorem markTo_same (n : Nat) (l : List UInt8) (k : Nat) (hk : k < n) (h : encG n l k = encF l k) : markTo n l k = markTo n l (k + 1) := by
  apply List.ext_getElem
  · simp [markTo]
  · intro i h1 h2
    simp [markTo] at h1 h2 ⊢
    by_cases e : i = k
    · subst e; rw [if_neg (by omega), if_pos (by omega), h]
    · by_cases hh : i < k
      · rw [if_pos hh, if_pos (by omega)]
      · rw [if_neg hh, if_neg (by omega)]
theorem dataN_mono {a b : Nat} (h : a ≤ b) : dataN a ≤ dataN b := by
  induction b with
  | zero => have : a = 0 := by omega
            subst this; exact Nat.le_refl _
  | succ b ih =>
    by_cases e : a = b + 1
    · subst e; exact Nat.le_refl _
    · have h1 := ih (by omega)
      have h2 : dataN (b + 1) = dataN b + if isPow (b + 1) then 0 else 1 := rfl
      omega
theorem enc_go {n : Nat} {l : List UInt8} (hn : n ≤ 64) (hc : chk 2 l = 0) (hl : l.length = dataN n) : enc (n : Int) l = (encOut n l, 0) := by
  unfold enc; rw [if_neg (by omega), if_neg (by simp [hc]), if_neg (by simp [hl])]; rfl
theorem encFpow {l : List UInt8} {k : Nat} (h : isPow (k + 1) = true) : encF l k = 48 := by unfold encF; rw [if_pos h]
theorem encFfree {l : List UInt8} {k : Nat} (h : isPow (k + 1) = false) : encF l k = l.getD (dataN k) 0 := by unfold encF; rw [if_neg (by simp [h])]

set_option maxRecDepth 100000 in
set_option maxHeartbeats 1000000 in
theorem tenc_go (n : Nat) (s : ByteArray) (w : World) (hn : n ≤ 64) (hc : chk 2 s.data.toList = 0) (hl : s.size = dataN n) :
    Calls Try.prog 18 #[.int .i64 (n : Int), .string s] w fun e w' => e = .returned (.tuple #[.string ⟨(enc (n : Int) s.data.toList).1.toArray⟩, .int .i64 (enc (n : Int) s.data.toList).2]) ∧ Below w.heap.size w w' := by
  have HR := hide (enc_go hn hc (by simpa using hl))
  have HC := hide hc
  have ht : tck (n : Int) 0 = 0 := by rw [tck0, if_pos (by omega)]
  have HT := hide ht
  have hmk := fun w => run_make_bytes n (by omega) w
  have hb1 : ((s.size : Int) != (dataN n : Int)) = false := by rw [hl]; simp
  have HL := hide hl
  have hdn := dataN_le n
  have hs64 : s.size ≤ 64 := by omega
  obtain ⟨l, hle⟩ : ∃ l, l = s.data.toList := ⟨_, rfl⟩
  rw [← hle] at HR HC
  have HLE := hide hle
  clear hc ht hl hle
  go_enter Try.func18, Try.ntmps18
  go_wp2_with (first
    | (go_at_call 39; refine (tchk_any _ _ _).mono ?_; rintro e w' ⟨rfl, rfl⟩; rw [HT.out])
    | (go_at_call 40; refine (wcheck_any _ _ _).mono ?_; rintro e w' ⟨rfl, q, rfl⟩; rw [← HLE.out, HC.out])
    | (go_at_call 46; refine (tdata_any n hn _).mono ?_; rintro e w' ⟨rfl, rfl⟩))
  go_loopw [1, 31] (fun t i wr => ∃ (k : Nat) (tb : ByteArray), k ≤ n ∧ i = .int .i64 k ∧ t = .string tb ∧ Hid (tb.data.toList = l.drop (dataN k)) ∧ Byt wr w.heap.size (fillTo n l k) ∧ Below w.heap.size w wr) (fun _ i _ => n - (intOf i).toNat)
  case atStart =>
    refine ⟨0, s, Nat.zero_le _, rfl, rfl, hide (by rw [HLE.out]; rfl), ?_, (belowN (Below.refl _ _) q).alloc (Nat.le_refl _) _⟩
    have := Byt.new_ (w.drewN q) (fillTo n l 0) (cs := Array.replicate n (byt 0)) (by rw [fillTo_zero]; simp)
    exact this
  case round =>
    obtain ⟨k, tb, hk, rfl, rfl, hrest, hby, hB⟩ := hrel
    have hlen := len_fillTo n l k
    by_cases hlt : k < n
    · obtain ⟨v0, hcell⟩ := hby.some_ (k := k) (by omega)
      have hfree := hby.free_ k
      have e1 : ((k + 1 : Nat) : Int) = (k : Int) + 1 := by omega
      have hBs := hB.size
      cases hp : isPow (k + 1)
      · have hf := fun w => free_val (k + 1) (by omega) (by omega) true (by rw [hp]; rfl) w
        rw [e1] at hf
        have HF := hide hf
        have HD := hide (show dataN (k + 1) = dataN k + 1 by show dataN k + _ = _; rw [hp]; rfl)
        have hge : dataN k < tb.size + dataN k := by
          have h1 := dataN_mono (show k + 1 ≤ n by omega)
          have h2 : tb.size = s.size - dataN k := by have := congrArg List.length hrest.out; rw [HLE.out] at this; simpa using this
          have := HD.out; have := HL.out; omega
        have htb : 0 < tb.size := by omega
        have HE := hide (show encF l k = tb[0]'htb by
          rw [encFfree hp]
          have h3 : tb.data.toList[0]? = (l.drop (dataN k))[0]? := by rw [hrest.out]
          rw [List.getElem?_drop] at h3
          have h4 : tb.data.toList[0]? = some (tb[0]'htb) := by rw [List.getElem?_eq_getElem (by simpa using htb)]; rfl
          rw [h4] at h3
          simp only [Nat.add_zero] at h3
          simp [List.getD, ← h3])
        have HLN := hide hlen
        have HS := hide (fillTo_set n l k hlt)
        clear hf hp e1 hlen hge
        go_wp2_with (go_at_call 48; refine (HF.out _).mono ?_; rintro e w' ⟨rfl, rfl⟩)
        have hby1 : Byt (wr.setCell ⟨w.heap.size, k, none⟩ (.int .u8 48)) w.heap.size ((fillTo n l k).set k 48) := hby.set_ k 48
        have hB1 := hB.setCell (p := ⟨w.heap.size, k, none⟩) (Nat.le_refl _) (.int .u8 48)
        obtain ⟨v1, hcell1⟩ := hby1.some_ (k := k) (by simp [HLN.out]; omega)
        have hfree1 := hby1.free_ k
        clear hcell hfree
        generalize wr.setCell ⟨w.heap.size, k, none⟩ (.int .u8 48) = w1 at hby1 hB1 hcell1 hfree1 ⊢
        have t0 : (0 : Int) < (tb.size : Int) := by omega
        have t1 : (1 : Int) ≤ (tb.size : Int) := by omega
        go_region
        go_wp2
        go_roundw
        case rel =>
          refine ⟨k + 1, tb.extract 1 tb.size, by omega, by go_num, rfl, hide ?_, ?_, (hB1.setCell (p := ⟨w.heap.size, k, none⟩) (Nat.le_refl _) _).drew⟩
          · rw [Lib.extract_data, hrest.out, HD.out, List.take_of_length_le (by rw [← hrest.out]; simp), List.drop_drop]
          · have h5 := (hby1.set_ k tb[0]).drew
            rw [List.set_set, ← HE.out, HS.out, HE.out] at h5
            exact h5
        case measure => simp [intOf]; omega
      · have hf := fun w => free_val (k + 1) (by omega) (by omega) false (by rw [hp]; rfl) w
        rw [e1] at hf
        have HF := hide hf
        have HD := hide (show dataN (k + 1) = dataN k by show dataN k + _ = _; rw [hp]; rfl)
        have HLN := hide hlen
        have HS := hide (fillTo_set n l k hlt)
        have HE := hide (encFpow (l := l) hp)
        clear hf hp e1 hlen
        go_wp2_with (go_at_call 48; refine (HF.out _).mono ?_; rintro e w' ⟨rfl, rfl⟩)
        go_roundw
        case rel =>
          refine ⟨k + 1, tb, by omega, by go_num, rfl, by rw [HD.out]; exact hrest, ?_, hB.setCell (p := ⟨w.heap.size, k, none⟩) (Nat.le_refl _) _⟩
          have h5 := hby.set_ k 48
          rw [← HE.out, HS.out, HE.out] at h5
          exact h5
        case measure => simp [intOf]; omega
    · obtain rfl : k = n := by omega
      rw [fillTo_all] at hby
      have hlf : (encFirst k l).length = k := by simp [encFirst]
      have hback := run_back_bytes hby (n := k) (c := k) hlf.symm
      have hsy : synd (encFirst k l) < k + 1 := by unfold synd; rw [hlf]; exact Nat.mod_lt _ (by omega)
      have HM := hide (show ((k : Int) + 1 - ((synd (encFirst k l) : Nat) : Int)) % ((k : Int) + 1) = ((encMiss k l : Nat) : Int) by
        unfold encMiss
        rw [Int.natCast_emod, Int.ofNat_sub (by omega)]; rfl)
      have hms : encMiss k l < k + 1 := Nat.mod_lt _ (by omega)
      have HF1 := hide hlf
      have hFs : (⟨(encFirst k l).toArray⟩ : ByteArray).size ≤ 70000 := by show (encFirst k l).toArray.size ≤ 70000; simp; omega
      have hts := fun w => tsynd_any ⟨(encFirst k l).toArray⟩ w hFs
      have HTS := hide hts
      clear hts hlf hFs
      go_wp2_with (go_at_call 42; refine (HTS.out _).mono ?_; rintro e w' ⟨rfl, rfl⟩)
      rw [HM.out]
      go_loopw [59] (fun i wv => ∃ j : Nat, j ≤ k ∧ i = .int .i64 j ∧ Byt wv w.heap.size (markTo k l j) ∧ Below w.heap.size w wv) (fun i _ => k - (intOf i).toNat)
      case atStart => exact ⟨0, Nat.zero_le _, rfl, by rw [markTo_zero]; exact hby, hB⟩
      case round =>
        obtain ⟨j, hj, rfl, hby2, hB2⟩ := hrel
        clear hback hby hB
        have hlen2 := len_markTo k l j
        by_cases hjt : j < k
        · obtain ⟨v0, hcell⟩ := hby2.some_ (k := j) (by omega)
          have hfree := hby2.free_ j
          have e1 : ((j + 1 : Nat) : Int) = (j : Int) + 1 := by omega
          have hbit := i64_and_nat (encMiss k l) (j + 1) (by omega) (by omega)
          rw [e1] at hbit
          have HLN := hide hlen2
          clear hlen2
          cases hp : isPow (j + 1)
          · have hf := fun w => free_val (j + 1) (by omega) (by omega) true (by rw [hp]; rfl) w
            rw [e1] at hf
            have HF := hide hf
            have HS := hide (markTo_same k l j hjt (by unfold encG; rw [hp]; rfl))
            clear hf hp e1 hbit
            go_wp2_with (go_at_call 48; refine (HF.out _).mono ?_; rintro e w' ⟨rfl, rfl⟩)
            go_roundw
            case rel => exact ⟨j + 1, by omega, by go_num, by rw [← HS.out]; exact hby2, hB2⟩
            case measure => simp [intOf]; omega
          · have hf := fun w => free_val (j + 1) (by omega) (by omega) false (by rw [hp]; rfl) w
            rw [e1] at hf
            have HF := hide hf
            cases hm : (encMiss k l &&& (j + 1)) == 0
            · have hm2 : (((encMiss k l &&& (j + 1) : Nat) : Int) != 0) = true := by rw [nat_bne, hm]; rfl
              have HS := hide (markTo_set k l j hjt)
              have HG := hide (show encG k l j = 49 by unfold encG; rw [hp, bne, hm]; rfl)
              clear hf hp e1 hm
              go_wp2_with (go_at_call 48; refine (HF.out _).mono ?_; rintro e w' ⟨rfl, rfl⟩)
              go_roundw
              case rel =>
                refine ⟨j + 1, by omega, by go_num, ?_, hB2.setCell (p := ⟨w.heap.size, j, none⟩) (Nat.le_refl _) _⟩
                have h5 := hby2.set_ j 49
                rw [← HG.out, HS.out, HG.out] at h5
                exact h5
              case measure => simp [intOf]; omega
            · have hm2 : (((encMiss k l &&& (j + 1) : Nat) : Int) != 0) = false := by rw [nat_bne, hm]; rfl
              have HS := hide (markTo_same k l j hjt (by unfold encG; rw [hp, bne, hm, encFpow hp]; rfl))
              clear hf hp e1 hm
              go_wp2_with (go_at_call 48; refine (HF.out _).mono ?_; rintro e w' ⟨rfl, rfl⟩)
              go_roundw
              case rel => exact ⟨j + 1, by omega, by go_num, by rw [← HS.out]; exact hby2, hB2⟩
              case measure => simp [intOf]; omega
        · obtain rfl : j = k := by omega
          rw [markTo_all] at hby2
          have hlo : (encOut j l).length = j := by simp [encOut]
          have hback2 := run_back_bytes hby2 (n := j) (c := j) hlo.symm
          clear hlo
          go_wp2
          go_ret2
          exact ⟨by rw [← HLE.out, HR.out]; rfl, hB2⟩

set_option maxRecDepth 100000 in
set_option maxHeartbeats 400000 in
theorem tenc_any (n : Int) (s : ByteArray) (w : World) :
    Calls Try.prog 18 #[.int .i64 n, .string s] w fun e w' => e = .returned (.tuple #[.string ⟨(enc n s.data.toList).1.toArray⟩, .int .i64 (enc n s.data.toList).2]) ∧ Below w.heap.size w w' := by
  by_cases h : 0 ≤ n ∧ n ≤ 64
  · have HT := hide (show tck n 0 = 0 by rw [tck0, if_pos h])
    obtain ⟨m, rfl⟩ := Int.eq_ofNat_of_zero_le h.1
    have hm : m ≤ 64 := by omega
    by_cases hc : chk 2 s.data.toList = 0
    · by_cases hl : s.size = dataN m
      · exact tenc_go m s w hm hc hl
      · have HR := hide (show enc (m : Int) s.data.toList = ([], 11) by
          unfold enc; rw [if_neg (by omega), if_neg (by simp [hc]), if_pos (by simpa using hl)])
        have HC := hide hc
        have hb : ((s.size : Int) != (dataN m : Int)) = true := by rw [bne_iff_ne]; omega
        clear hc hl h
        go_enter Try.func18, Try.ntmps18
        go_wp2_with (first
          | (go_at_call 39; refine (tchk_any _ _ _).mono ?_; rintro e w' ⟨rfl, rfl⟩; rw [HT.out])
          | (go_at_call 40; refine (wcheck_any _ _ _).mono ?_; rintro e w' ⟨rfl, q, rfl⟩; rw [HC.out])
          | (go_at_call 46; refine (tdata_any m hm _).mono ?_; rintro e w' ⟨rfl, rfl⟩))
        go_ret2
        exact ⟨by rw [HR.out]; rfl, belowN (Below.refl _ _) _⟩
    · have HR := hide (show enc (m : Int) s.data.toList = ([], chk 2 s.data.toList) by unfold enc; rw [if_neg (by omega), if_pos hc])
      obtain ⟨c, hcc⟩ : ∃ c, c = chk 2 s.data.toList := ⟨_, rfl⟩
      rw [← hcc] at hc HR
      have HCC := hide hcc
      have hcb : (c != 0) = true := by simpa using hc
      clear hc hcc h
      go_enter Try.func18, Try.ntmps18
      go_wp2_with (first
        | (go_at_call 39; refine (tchk_any _ _ _).mono ?_; rintro e w' ⟨rfl, rfl⟩; rw [HT.out])
        | (go_at_call 40; refine (wcheck_any _ _ _).mono ?_; rintro e w' ⟨rfl, q, rfl⟩; rw [← HCC.out]))
      go_ret2
      exact ⟨by rw [HR.out]; rfl, belowN (Below.refl _ _) _⟩
  · have HT := hide (show tck n 0 = 2 by rw [tck0, if_neg h])
    have HR := hide (show enc n s.data.toList = ([], 2) by unfold enc; rw [if_pos h])
    clear h
    go_enter Try.func18, Try.ntmps18
    go_wp2_with (go_at_call 39; refine (tchk_any _ _ _).mono ?_; rintro e w' ⟨rfl, rfl⟩; rw [HT.out])
    go_ret2
    exact ⟨by rw [HR.out]; rfl, Below.refl _ _⟩
end Go.Proofs.Ytijeogengbphdaa
