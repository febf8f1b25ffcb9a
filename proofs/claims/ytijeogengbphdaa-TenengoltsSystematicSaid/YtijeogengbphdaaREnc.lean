/- Contract of grooveref48.Encode: any number and any string. -/
import Derived.Test.YtijeogengbphdaaEnc
set_option linter.unusedVariables false
namespace Go.Proofs.Ytijeogengbphdaa
open Go.RowKit
def encK (l : List UInt8) (k : Nat) : List UInt8 := (List.range k).map (encF l)
def outK (n : Nat) (l : List UInt8) (k : Nat) : List UInt8 := (List.range k).map (encG n l)
theorem encK_succ (l : List UInt8) (k : Nat) : encK l (k + 1) = encK l k ++ [encF l k] := by simp [encK, List.range_succ]
theorem outK_succ (n : Nat) (l : List UInt8) (k : Nat) : outK n l (k + 1) = outK n l k ++ [encG n l k] := by simp [outK, List.range_succ]
/-- a letter of a word, as a word -/
theorem one_data (s : ByteArray) (k : Nat) (hk : k < s.size) : (s.extract k (k + 1)).data.toList = [s.data.toList.getD k 0] := by
  rw [Lib.extract_data]
  have h : k < s.data.toList.length := by simpa using hk
  rw [List.drop_eq_getElem_cons h, show k + 1 - k = 1 by omega, List.take_succ_cons, List.take_zero]
  simp [List.getD, List.getElem?_eq_getElem h]
theorem app_data (a b : ByteArray) : (a ++ b).data.toList = a.data.toList ++ b.data.toList := by rw [ByteArray.data_append, Array.toList_append]
theorem size_of_data {a : ByteArray} {l : List UInt8} (h : a.data.toList = l) : a.size = l.length := by rw [← h]; simp

set_option maxRecDepth 100000 in
set_option maxHeartbeats 1000000 in
theorem renc_go (n : Nat) (s : ByteArray) (w : World) (hn : n ≤ 64) (hc : chk 2 s.data.toList = 0) (hl : s.size = dataN n) :
    Calls Try.prog 19 #[.int .i64 (n : Int), .string s] w fun e w' => e = .returned (.tuple #[.string ⟨(enc (n : Int) s.data.toList).1.toArray⟩, .int .i64 (enc (n : Int) s.data.toList).2]) ∧ w = w' := by
  have HR := hide (enc_go hn hc (by simpa using hl))
  have HC := hide hc
  have HDV := hide (show dataV (n : Int) = (((dataN n : Nat) : Int), 0) by unfold dataV; rw [if_pos (by omega)]; rfl)
  have hb1 : ((s.size : Int) != (dataN n : Int)) = false := by rw [hl]; simp
  have HL := hide hl
  have hdn := dataN_le n
  have hs64 : s.size ≤ 64 := by omega
  obtain ⟨l, hle⟩ : ∃ l, l = s.data.toList := ⟨_, rfl⟩
  rw [← hle] at HR HC
  have HLE := hide hle
  clear hc hl hle
  go_enter Try.func19, Try.ntmps19
  go_wp2_with (first
    | (go_at_call 17; refine (rData_any _ _).mono ?_; rintro e w' ⟨rfl, rfl⟩; rw [HDV.out])
    | (go_at_call 44; refine (rcheck_any _ _ _).mono ?_; rintro e w' ⟨rfl, rfl⟩; rw [← HLE.out, HC.out]))
  go_loop [9, 10, 11] (fun f a i => ∃ (k : Nat) (fb : ByteArray), k ≤ n ∧ i = .int .i64 ((k : Int) + 1) ∧ a = .int .i64 (dataN k) ∧ f = .string fb ∧ Hid (fb.data.toList = encK l k) ∧ fb.size ≤ k) (fun _ _ i => n + 1 - (intOf i).toNat)
  case atStart => exact ⟨0, ⟨#[]⟩, Nat.zero_le _, rfl, rfl, rfl, hide rfl, Nat.le_refl _⟩
  case round =>
    obtain ⟨k, fb, hk, rfl, rfl, rfl, hf, hfz⟩ := hrel
    have hdk := dataN_le k
    by_cases hlt : k < n
    · have e1 : ((k + 1 : Nat) : Int) = (k : Int) + 1 := by omega
      have HS := hide (encK_succ l k)
      cases hp : isPow (k + 1)
      · have hf2 := fun w => rpow_val (k + 1) (by omega) (by omega) false hp w
        rw [e1] at hf2
        have HF := hide hf2
        have HD := hide (show dataN (k + 1) = dataN k + 1 by show dataN k + _ = _; rw [hp]; rfl)
        have hlt2 : dataN k < s.size := by
          have h1 := dataN_mono (show k + 1 ≤ n by omega)
          have := HD.out; have := HL.out; omega
        have HE := hide (encFfree (l := l) hp)
        have hd0 : (0 : Int) ≤ (dataN k : Int) := by omega
        have hd1 : (dataN k : Int) + 1 ≤ (s.size : Int) := by omega
        have hd2 : (dataN k : Int) ≤ (dataN k : Int) + 1 := by omega
        clear hf2 hp e1
        go_wp2_with (go_at_call 47; refine (HF.out _).mono ?_; rintro e w' ⟨rfl, rfl⟩)
        go_round
        case rel =>
          refine ⟨k + 1, fb ++ s.extract (dataN k) (dataN k + 1), by omega, by go_num, by rw [HD.out]; go_num, rfl, hide ?_, ?_⟩
          · rw [app_data, hf.out, one_data s _ hlt2, HS.out, HE.out, HLE.out]
          · rw [ByteArray.size_append]; simp; omega
        case measure => simp [intOf]; omega
      · have hf2 := fun w => rpow_val (k + 1) (by omega) (by omega) true hp w
        rw [e1] at hf2
        have HF := hide hf2
        have HD := hide (show dataN (k + 1) = dataN k by show dataN k + _ = _; rw [hp]; rfl)
        have HE := hide (encFpow (l := l) hp)
        clear hf2 hp e1
        go_wp2_with (go_at_call 47; refine (HF.out _).mono ?_; rintro e w' ⟨rfl, rfl⟩)
        go_round
        case rel =>
          refine ⟨k + 1, fb ++ ⟨#[48]⟩, by omega, by go_num, by rw [HD.out], rfl, hide ?_, ?_⟩
          · rw [app_data, hf.out, HS.out, HE.out]
          · rw [ByteArray.size_append]; show fb.size + 1 ≤ k + 1; omega
        case measure => simp [intOf]; omega
    · obtain rfl : k = n := by omega
      have hfe : fb.data.toList = encFirst k l := hf.out
      have hlf : (encFirst k l).length = k := by simp [encFirst]
      have hsy : synd (encFirst k l) < k + 1 := by unfold synd; rw [hlf]; exact Nat.mod_lt _ (by omega)
      have HM := hide (show ((k : Int) + 1 - ((synd (encFirst k l) : Nat) : Int)) % ((k : Int) + 1) = ((encMiss k l : Nat) : Int) by
        unfold encMiss
        rw [Int.natCast_emod, Int.ofNat_sub (by omega)]; rfl)
      have hms : encMiss k l < k + 1 := Nat.mod_lt _ (by omega)
      have hts := fun w => rsynd_any fb w (by omega)
      rw [hfe] at hts
      have hfs : fb.size = k := by rw [size_of_data hfe, hlf]
      have HTS := hide hts
      have HFE := hide hfe
      have HFS := hide hfs
      clear hts hlf hfe hfs
      go_wp2_with (go_at_call 45; refine (HTS.out _).mono ?_; rintro e w' ⟨rfl, rfl⟩)
      rw [HM.out]
      go_loop [13, 14] (fun o i => ∃ (j : Nat) (ob : ByteArray), j ≤ k ∧ i = .int .i64 ((j : Int) + 1) ∧ o = .string ob ∧ Hid (ob.data.toList = outK k l j) ∧ ob.size ≤ j) (fun _ i => k + 1 - (intOf i).toNat)
      case atStart => exact ⟨0, ⟨#[]⟩, Nat.zero_le _, rfl, rfl, hide rfl, Nat.le_refl _⟩
      case round =>
        obtain ⟨j, ob, hj, rfl, rfl, ho, hoz⟩ := hrel
        by_cases hjt : j < k
        · have e1 : ((j + 1 : Nat) : Int) = (j : Int) + 1 := by omega
          have hbit := i64_and_nat (encMiss k l) (j + 1) (by omega) (by omega)
          rw [e1] at hbit
          have HS := hide (outK_succ k l j)
          have hjf : j < fb.size := by have := HFS.out; omega
          have hj0 : (0 : Int) ≤ (j : Int) := by omega
          have hj1 : (j : Int) + 1 ≤ (fb.size : Int) := by omega
          have hj2 : (j : Int) ≤ (j : Int) + 1 := by omega
          have HG0 := hide (show (fb.extract j (j + 1)).data.toList = [encF l j] by
            rw [one_data fb j hjf, HFE.out]
            have : j < (List.range k).length := by simpa using hjt
            simp [List.getD, encFirst, List.getElem?_eq_getElem this])
          cases hp : isPow (j + 1)
          · have hf2 := fun w => rpow_val (j + 1) (by omega) (by omega) false hp w
            rw [e1] at hf2
            have HF := hide hf2
            have HG := hide (show encG k l j = encF l j by unfold encG; rw [hp]; rfl)
            clear hf2 hp e1 hbit
            go_wp2_with (go_at_call 47; refine (HF.out _).mono ?_; rintro e w' ⟨rfl, rfl⟩)
            go_round
            case rel =>
              refine ⟨j + 1, ob ++ fb.extract j (j + 1), by omega, by go_num, rfl, hide ?_, ?_⟩
              · rw [app_data, ho.out, HG0.out, HS.out, HG.out]
              · rw [ByteArray.size_append]; simp; omega
            case measure => simp [intOf]; omega
          · have hf2 := fun w => rpow_val (j + 1) (by omega) (by omega) true hp w
            rw [e1] at hf2
            have HF := hide hf2
            cases hm : (encMiss k l &&& (j + 1)) == 0
            · have hm2 : (((encMiss k l &&& (j + 1) : Nat) : Int) != 0) = true := by rw [nat_bne, hm]; rfl
              have HG := hide (show encG k l j = 49 by unfold encG; rw [hp, bne, hm]; rfl)
              clear hf2 hp e1 hm
              go_wp2_with (go_at_call 47; refine (HF.out _).mono ?_; rintro e w' ⟨rfl, rfl⟩)
              go_round
              case rel =>
                refine ⟨j + 1, ob ++ ⟨#[49]⟩, by omega, by go_num, rfl, hide ?_, ?_⟩
                · rw [app_data, ho.out, HS.out, HG.out]
                · rw [ByteArray.size_append]; show ob.size + 1 ≤ j + 1; omega
              case measure => simp [intOf]; omega
            · have hm2 : (((encMiss k l &&& (j + 1) : Nat) : Int) != 0) = false := by rw [nat_bne, hm]; rfl
              have HG := hide (show encG k l j = encF l j by unfold encG; rw [hp, bne, hm]; rfl)
              clear hf2 hp e1 hm
              go_wp2_with (go_at_call 47; refine (HF.out _).mono ?_; rintro e w' ⟨rfl, rfl⟩)
              go_round
              case rel =>
                refine ⟨j + 1, ob ++ fb.extract j (j + 1), by omega, by go_num, rfl, hide ?_, ?_⟩
                · rw [app_data, ho.out, HG0.out, HS.out, HG.out]
                · rw [ByteArray.size_append]; simp; omega
              case measure => simp [intOf]; omega
        · obtain rfl : j = k := by omega
          have HO := hide (show ob = ⟨(encOut j l).toArray⟩ by
            apply ByteArray.ext; apply Array.toList_inj.1; rw [ho.out]; rfl)
          go_wp2
          go_ret2
          exact ⟨by rw [← HLE.out, HR.out, ← HO.out]; rfl, rfl⟩
set_option maxRecDepth 100000 in
set_option maxHeartbeats 400000 in
theorem renc_any (n : Int) (s : ByteArray) (w : World) :
    Calls Try.prog 19 #[.int .i64 n, .string s] w fun e w' => e = .returned (.tuple #[.string ⟨(enc n s.data.toList).1.toArray⟩, .int .i64 (enc n s.data.toList).2]) ∧ w = w' := by
  by_cases h : 0 ≤ n ∧ n ≤ 64
  · obtain ⟨m, rfl⟩ := Int.eq_ofNat_of_zero_le h.1
    have hm : m ≤ 64 := by omega
    have HDV := hide (show dataV (m : Int) = (((dataN m : Nat) : Int), 0) by unfold dataV; rw [if_pos h]; rfl)
    by_cases hc : chk 2 s.data.toList = 0
    · by_cases hl : s.size = dataN m
      · exact renc_go m s w hm hc hl
      · have HR := hide (show enc (m : Int) s.data.toList = ([], 11) by
          unfold enc; rw [if_neg (by omega), if_neg (by simp [hc]), if_pos (by simpa using hl)])
        have HC := hide hc
        have hb : ((s.size : Int) != (dataN m : Int)) = true := by rw [bne_iff_ne]; omega
        clear hc hl h
        go_enter Try.func19, Try.ntmps19
        go_wp2_with (first
          | (go_at_call 17; refine (rData_any _ _).mono ?_; rintro e w' ⟨rfl, rfl⟩; rw [HDV.out])
          | (go_at_call 44; refine (rcheck_any _ _ _).mono ?_; rintro e w' ⟨rfl, rfl⟩; rw [HC.out]))
        go_ret2
        exact ⟨by rw [HR.out]; rfl, rfl⟩
    · have HR := hide (show enc (m : Int) s.data.toList = ([], chk 2 s.data.toList) by unfold enc; rw [if_neg (by omega), if_pos hc])
      obtain ⟨c, hcc⟩ : ∃ c, c = chk 2 s.data.toList := ⟨_, rfl⟩
      rw [← hcc] at hc HR
      have HCC := hide hcc
      have hcb : (c != 0) = true := by simpa using hc
      clear hc hcc h
      go_enter Try.func19, Try.ntmps19
      go_wp2_with (first
        | (go_at_call 17; refine (rData_any _ _).mono ?_; rintro e w' ⟨rfl, rfl⟩; rw [HDV.out])
        | (go_at_call 44; refine (rcheck_any _ _ _).mono ?_; rintro e w' ⟨rfl, rfl⟩; rw [← HCC.out]))
      go_ret2
      exact ⟨by rw [HR.out]; rfl, rfl⟩
  · have HDV := hide (show dataV n = (0, 2) by unfold dataV; rw [if_neg h])
    have HR := hide (show enc n s.data.toList = ([], 2) by unfold enc; rw [if_pos h])
    clear h
    go_enter Try.func19, Try.ntmps19
    go_wp2_with (go_at_call 17; refine (rData_any _ _).mono ?_; rintro e w' ⟨rfl, rfl⟩; rw [HDV.out])
    go_ret2
    exact ⟨by rw [HR.out]; rfl, rfl⟩
end Go.Proofs.Ytijeogengbphdaa
