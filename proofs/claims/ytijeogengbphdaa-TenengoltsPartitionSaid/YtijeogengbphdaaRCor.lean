/- Contract of grooveref48.Correct: any numbers and any string. -/
import Derived.Test.YtijeogengbphdaaTen
import Derived.Test.YtijeogengbphdaaStrs
import Derived.Maps.AppendAt
import Derived.Deep.RegionHeld3
namespace Go.Proofs.Ytijeogengbphdaa
open Go.RowKit
/-- the word without its letter i -/
def delB (w : ByteArray) (i : Nat) : ByteArray := w.extract 0 i ++ w.extract (i + 1) w.size
/-- the word with a letter more at i -/
def insB (w : ByteArray) (i : Nat) (c : UInt8) : ByteArray := w.extract 0 i ++ ⟨#[c]⟩ ++ w.extract i w.size
def candDel (s : ByteArray) (k : Nat) : List ByteArray := (List.range k).map (delB s)
def candIns (s : ByteArray) (k : Nat) : List ByteArray := (List.range k).flatMap fun i => [insB s i 48, insB s i 49]
theorem candDel_succ (s : ByteArray) (k : Nat) : candDel s (k + 1) = candDel s k ++ [delB s k] := by simp [candDel, List.range_succ]
theorem candIns_succ (s : ByteArray) (k : Nat) : candIns s (k + 1) = candIns s k ++ [insB s k 48, insB s k 49] := by simp [candIns, List.range_succ]
theorem candIns_len (s : ByteArray) (k : Nat) : (candIns s k).length = 2 * k := by
  induction k with
  | zero => rfl
  | succ k ih => rw [candIns_succ, List.length_append, ih]; simp; omega
def cands (n : Int) (s : ByteArray) : List ByteArray :=
  if (s.size : Int) = n then [s] else if (s.size : Int) = n + 1 then candDel s s.size else candIns s (s.size + 1)
def pick (a : Int) (l : List ByteArray) : ByteArray × Int :=
  match l.find? (fun u => ((synd u.data.toList : Nat) : Int) == a) with
  | some u => (u, 0)
  | none => (⟨#[]⟩, 22)
def corr (n a : Int) (s : ByteArray) : ByteArray × Int :=
  if tck n a ≠ 0 then (⟨#[]⟩, 2) else if chk 2 s.data.toList ≠ 0 then (⟨#[]⟩, chk 2 s.data.toList)
  else if (s.size : Int) < n - 1 ∨ n + 1 < (s.size : Int) then (⟨#[]⟩, 11) else pick a (cands n s)
theorem size_delB (s : ByteArray) (i : Nat) : (delB s i).size ≤ s.size + s.size := by
  unfold delB; rw [ByteArray.size_append]; simp; omega
theorem size_insB (s : ByteArray) (i : Nat) (c : UInt8) : (insB s i c).size ≤ s.size + 1 + s.size := by
  unfold insB; rw [ByteArray.size_append, ByteArray.size_append]
  have : (⟨#[c]⟩ : ByteArray).size = 1 := rfl
  rw [this]; simp; omega
theorem pick_hit {a : Int} {l : List ByteArray} {k : Nat} (hk : k < l.length) (hno : ∀ j (hj : j < k), ((synd (l[j]'(by omega)).data.toList : Nat) : Int) ≠ a) (hy : ((synd l[k].data.toList : Nat) : Int) = a) : pick a l = (l[k], 0) := by
  have : l.find? (fun u => ((synd u.data.toList : Nat) : Int) == a) = some l[k] := by
    rw [List.find?_eq_some_iff_getElem]
    refine ⟨by simpa using hy, k, hk, rfl, fun j hj => by simpa using hno j hj⟩
  unfold pick; rw [this]
theorem pick_miss {a : Int} {l : List ByteArray} (hno : ∀ j (hj : j < l.length), ((synd l[j].data.toList : Nat) : Int) ≠ a) : pick a l = (⟨#[]⟩, 22) := by
  have : l.find? (fun u => ((synd u.data.toList : Nat) : Int) == a) = none := by
    rw [List.find?_eq_none]
    intro u hu
    obtain ⟨j, hj, rfl⟩ := List.getElem_of_mem hu
    simpa using hno j hj
  unfold pick; rw [this]
theorem corr_go {n a : Int} {s : ByteArray} (ht : tck n a = 0) (hc : chk 2 s.data.toList = 0) (h1 : ¬ (s.size : Int) < n - 1) (h2 : ¬ n + 1 < (s.size : Int)) : corr n a s = pick a (cands n s) := by
  unfold corr; rw [if_neg (by simp [ht]), if_neg (by simp [hc]), if_neg (by omega)]
theorem tck_bounds {n a : Int} (h : tck n a = 0) : 0 ≤ n ∧ n ≤ 64 ∧ 0 ≤ a ∧ a ≤ n := by unfold tck at h; split at h <;> omega

set_option maxRecDepth 100000 in
set_option maxHeartbeats 1000000 in
theorem rcor_del (n : Nat) (a : Int) (s : ByteArray) (w : World) (ht : tck n a = 0) (hc : chk 2 s.data.toList = 0) (hs : s.size = n + 1) :
    Calls Try.prog 13 #[.int .i64 n, .int .i64 a, .string s] w fun e w' => e = .returned (.tuple #[.string (corr n a s).1, .int .i64 (corr n a s).2]) ∧ Below w.heap.size w w' := by
  have hn : n ≤ 64 := by have := tck_bounds ht; omega
  have hcr := corr_go ht hc (by omega) (by omega)
  have hcd : cands n s = candDel s s.size := by unfold cands; rw [if_neg (by omega), if_pos (by omega)]
  rw [hcd] at hcr
  have HR := hide hcr
  have HT := hide ht
  have HC := hide hc
  have HN := hide hs
  have HL := hide (show (candDel s s.size).length = s.size by simp [candDel])
  have b1 : ((s.size : Int) == (n : Int) - 1) = false := by rw [beq_eq_false_iff_ne]; omega
  have b2 : ((s.size : Int) == (n : Int) + 1) = true := by rw [beq_iff_eq]; omega
  have d1 : decide ((s.size : Int) < (n : Int) - 1) = false := by simp; omega
  have d2 : decide ((n : Int) + 1 < (s.size : Int)) = false := by simp; omega
  have hs1 : s.size ≤ 65 := by omega
  clear ht hc hs hcr hcd
  go_enter Try.func13, Try.ntmps13
  go_wp2_with (first | (go_at_call 43; refine (inside_t _ _ _ HT.out).mono ?_; rintro e w' ⟨rfl, rfl⟩) | (go_at_call 44; refine (rcheck_any _ _ _).mono ?_; rintro e w' ⟨rfl, rfl⟩; rw [HC.out]))
  go_loopw [9, 11] (fun v i wr => ∃ k : Nat, k ≤ s.size ∧ i = .int .i64 k ∧ Strs wr w.heap.size v (candDel s k) ∧ Below w.heap.size w wr) (fun _ i _ => s.size - (intOf i).toNat)
  case atStart => exact ⟨0, Nat.zero_le _, rfl, Strs.empty_ (by simp) (by simp), ((Below.refl _ _).alloc (Nat.le_refl _) _).alloc (by simp) _⟩
  case round =>
    obtain ⟨k, hk, rfl, hown, hB⟩ := hrel
    by_cases hlt : k < s.size
    · have hk0 : (0 : Int) ≤ (k : Int) := by omega
      have hk1 : (k : Int) < (s.size : Int) := by omega
      have hk2 : (k : Int) + 1 ≤ (s.size : Int) := by omega
      have HS := hide (candDel_succ s k)
      have hkl : (candDel s k).length = k := by simp [candDel]
      have hBs := hB.size
      go_wp2_with fail
      have q1 : IntKind.i64.wrap ((k : Int) + 1) = (k : Int) + 1 := IntWalk.i64_in _ (by omega)
      have q2 : ((k : Int) + 1).toNat = k + 1 := by omega
      have q3 : (0 : Int) ≤ (k : Int) + 1 := by omega
      have q4 : ¬ 9223372036854775807 < k + (s.size - (k + 1)) := by omega
      have HKL := hide hkl
      clear hkl
      have hown2 := hown.drew
      have hB2 := hB.drew
      go_region_held3 (fun _ => True) (exact trivial) ((refine step_app_strs (by rfl) _ _ (by rfl) w.heap.size _ _ (by rfl) (hown2.alloc _) wr.heap.size 1 [delB s k] (by rfl) (by rfl) (heap_alloc_new wr.drew _) (by rw [HKL.out]; omega) (by simp; omega) ?_; intro v' w3 hown3 hg3))
      clear q1 q2 q3 q4
      have hB3 := below_app (hB2.alloc hBs _) (hown2.alloc _) hg3
      clear hown2 hB2 hg3
      go_wp2
      go_roundw
      case rel => exact ⟨k + 1, by omega, by go_num, by rw [HS.out]; exact hown3, hB3⟩
      case measure => simp [intOf]; omega
    · obtain rfl : k = s.size := by omega
      have hLp : 0 < (candDel s s.size).length := by rw [HL.out]; have := HN.out; omega
      have hLb : (candDel s s.size).length ≤ 140 := by rw [HL.out]; omega
      have HZ := hide (show ∀ j (hj : j < (candDel s s.size).length), (candDel s s.size)[j].size ≤ 70000 from fun j hj => by
        obtain ⟨i, _, hi⟩ := List.mem_map.1 (List.getElem_mem hj)
        have := size_delB s i
        rw [← hi]; omega)
      generalize candDel s s.size = L at HR hown hLp hLb HZ
      clear HL
      obtain ⟨g, cap, hv, hg1, hg2⟩ := hown.form hLp
      subst hv
      go_wp2
      go_loop [12] (fun i => ∃ k : Nat, k ≤ L.length ∧ i = .int .i64 k ∧ Hid (∀ j (_ : j < k) (hj : j < L.length), ((synd L[j].data.toList : Nat) : Int) ≠ a)) (fun i => L.length - (intOf i).toNat)
      case atStart => exact ⟨0, Nat.zero_le _, rfl, hide fun j hj _ => absurd hj (by omega)⟩
      case round =>
        obtain ⟨k, hk, rfl, hno⟩ := hrel
        by_cases hlt : k < L.length
        · have hcell := hown.cell hlt
          have hz := HZ.out k hlt
          have HY := fun hy => hide (pick_hit (a := a) hlt (fun j hj => hno.out j hj (by omega)) hy)
          obtain ⟨u, hu⟩ : ∃ u, u = L[k] := ⟨_, rfl⟩
          rw [← hu] at hcell hz
          have HU := hide hu
          clear hu
          by_cases hy : ((synd u.data.toList : Nat) : Int) = a
          · have hyb : (((synd u.data.toList : Nat) : Int) == a) = true := by simpa using hy
            have HF := HY (by rw [← HU.out]; exact hy)
            clear HY hy
            go_wp2_with (go_at_call 45; refine (rsynd_any u _ hz).mono ?_; rintro e w' ⟨rfl, rfl⟩)
            go_ret2
            exact ⟨by rw [HR.out, HF.out, ← HU.out]; rfl, hB⟩
          · have hyb : (((synd u.data.toList : Nat) : Int) == a) = false := by simpa using hy
            have HY2 := hide hy
            clear HY hy
            go_wp2_with (go_at_call 45; refine (rsynd_any u _ hz).mono ?_; rintro e w' ⟨rfl, rfl⟩)
            refine ⟨⟨k + 1, by omega, by go_num, hide fun j hj hj2 => ?_⟩, by simp [intOf]; omega⟩
            by_cases hjk : j < k
            · exact hno.out j hjk hj2
            · obtain rfl : j = k := by omega
              rw [← HU.out]; exact HY2.out
        · obtain rfl : k = L.length := by omega
          go_wp2
          go_ret2
          refine ⟨?_, hB⟩
          rw [HR.out, pick_miss fun j hj => hno.out j hj hj]; rfl

set_option maxRecDepth 100000 in
set_option maxHeartbeats 1000000 in
theorem rcor_ins (n : Nat) (a : Int) (s : ByteArray) (w : World) (ht : tck n a = 0) (hc : chk 2 s.data.toList = 0) (hs : s.size + 1 = n) :
    Calls Try.prog 13 #[.int .i64 n, .int .i64 a, .string s] w fun e w' => e = .returned (.tuple #[.string (corr n a s).1, .int .i64 (corr n a s).2]) ∧ Below w.heap.size w w' := by
  have hn : n ≤ 64 := by have := tck_bounds ht; omega
  have hcr := corr_go ht hc (by omega) (by omega)
  have hcd : cands n s = candIns s (s.size + 1) := by unfold cands; rw [if_neg (by omega), if_neg (by omega)]
  rw [hcd] at hcr
  have HR := hide hcr
  have HT := hide ht
  have HC := hide hc
  have HL := hide (candIns_len s (s.size + 1))
  have b1 : ((s.size : Int) == (n : Int) - 1) = true := by rw [beq_iff_eq]; omega
  have b2 : ((s.size : Int) == (n : Int) + 1) = false := by rw [beq_eq_false_iff_ne]; omega
  have d1 : decide ((s.size : Int) < (n : Int) - 1) = false := by simp; omega
  have d2 : decide ((n : Int) + 1 < (s.size : Int)) = false := by simp; omega
  have hs1 : s.size ≤ 65 := by omega
  clear ht hc hs hcr hcd
  go_enter Try.func13, Try.ntmps13
  go_wp2_with (first | (go_at_call 43; refine (inside_t _ _ _ HT.out).mono ?_; rintro e w' ⟨rfl, rfl⟩) | (go_at_call 44; refine (rcheck_any _ _ _).mono ?_; rintro e w' ⟨rfl, rfl⟩; rw [HC.out]))
  go_loopw [9, 10] (fun v i wr => ∃ k : Nat, k ≤ s.size + 1 ∧ i = .int .i64 k ∧ Strs wr w.heap.size v (candIns s k) ∧ Below w.heap.size w wr) (fun _ i _ => s.size + 1 - (intOf i).toNat)
  case atStart => exact ⟨0, Nat.zero_le _, rfl, Strs.empty_ (by simp) (by simp), ((Below.refl _ _).alloc (Nat.le_refl _) _).alloc (by simp) _⟩
  case round =>
    obtain ⟨k, hk, rfl, hown, hB⟩ := hrel
    by_cases hlt : k < s.size + 1
    · have hk0 : (0 : Int) ≤ (k : Int) := by omega
      have hk1 : (k : Int) ≤ (s.size : Int) := by omega
      have hkN : k ≤ s.size := by omega
      have HS := hide (candIns_succ s k)
      have hkl := candIns_len s k
      have hBs := hB.size
      go_wp2_with fail
      have q4 : ¬ 9223372036854775807 < k + 1 := by omega
      have q5 : ¬ 9223372036854775807 < k + 1 + (s.size - k) := by omega
      have HKL := hide hkl
      clear hkl
      have hown2 := hown.drew
      have hB2 := hB.drew
      go_region_held3 (fun _ => True) (exact trivial) ((refine step_app_strs (by rfl) _ _ (by rfl) w.heap.size _ _ (by rfl) (hown2.alloc _) wr.heap.size 2 [insB s k 48, insB s k 49] (by rfl) (by rfl) (heap_alloc_new wr.drew _) (by rw [HKL.out]; omega) (by simp; omega) ?_; intro v' w3 hown3 hg3))
      clear q4 q5
      have hB3 := below_app (hB2.alloc hBs _) (hown2.alloc _) hg3
      clear hown2 hB2 hg3
      go_wp2
      go_roundw
      case rel => exact ⟨k + 1, by omega, by go_num, by rw [HS.out]; exact hown3, hB3⟩
      case measure => simp [intOf]; omega
    · have hke : s.size + 1 = k := by omega
      rw [hke] at HR HL
      have hkb : k ≤ 66 := by omega
      have hdk : decide (k ≤ s.size) = false := by simp; omega
      have HK := hide hke
      clear hke
      have hLp : 0 < (candIns s k).length := by rw [HL.out]; have := HK.out; omega
      have hLb : (candIns s k).length ≤ 140 := by rw [HL.out]; omega
      have HZ := hide (show ∀ j (hj : j < (candIns s k).length), (candIns s k)[j].size ≤ 70000 from fun j hj => by
        obtain ⟨i, _, hi⟩ := List.mem_flatMap.1 (List.getElem_mem hj)
        have h1 := size_insB s i 48
        have h2 := size_insB s i 49
        simp only [List.mem_cons, List.not_mem_nil, or_false] at hi
        rcases hi with hi | hi <;> rw [hi] <;> omega)
      generalize candIns s k = L at HR hown hLp hLb HZ
      clear HL HK
      obtain ⟨g, cap, hv, hg1, hg2⟩ := hown.form hLp
      subst hv
      go_wp2
      go_loop [12] (fun i => ∃ m : Nat, m ≤ L.length ∧ i = .int .i64 m ∧ Hid (∀ j (_ : j < m) (hj : j < L.length), ((synd L[j].data.toList : Nat) : Int) ≠ a)) (fun i => L.length - (intOf i).toNat)
      case atStart => exact ⟨0, Nat.zero_le _, rfl, hide fun j hj _ => absurd hj (by omega)⟩
      case round =>
        obtain ⟨m, hk, rfl, hno⟩ := hrel
        by_cases hlt : m < L.length
        · have hcell := hown.cell hlt
          have hz := HZ.out m hlt
          have HY := fun hy => hide (pick_hit (a := a) hlt (fun j hj => hno.out j hj (by omega)) hy)
          obtain ⟨u, hu⟩ : ∃ u, u = L[m] := ⟨_, rfl⟩
          rw [← hu] at hcell hz
          have HU := hide hu
          clear hu
          by_cases hy : ((synd u.data.toList : Nat) : Int) = a
          · have hyb : (((synd u.data.toList : Nat) : Int) == a) = true := by simpa using hy
            have HF := HY (by rw [← HU.out]; exact hy)
            clear HY hy
            go_wp2_with (go_at_call 45; refine (rsynd_any u _ hz).mono ?_; rintro e w' ⟨rfl, rfl⟩)
            go_ret2
            exact ⟨by rw [HR.out, HF.out, ← HU.out]; rfl, hB⟩
          · have hyb : (((synd u.data.toList : Nat) : Int) == a) = false := by simpa using hy
            have HY2 := hide hy
            clear HY hy
            go_wp2_with (go_at_call 45; refine (rsynd_any u _ hz).mono ?_; rintro e w' ⟨rfl, rfl⟩)
            refine ⟨⟨m + 1, by omega, by go_num, hide fun j hj hj2 => ?_⟩, by simp [intOf]; omega⟩
            by_cases hjk : j < m
            · exact hno.out j hjk hj2
            · obtain rfl : j = m := by omega
              rw [← HU.out]; exact HY2.out
        · obtain rfl : m = L.length := by omega
          go_wp2
          go_ret2
          refine ⟨?_, hB⟩
          rw [HR.out, pick_miss fun j hj => hno.out j hj hj]; rfl

set_option maxRecDepth 100000 in
set_option maxHeartbeats 1000000 in
theorem rcor_same (n : Nat) (a : Int) (s : ByteArray) (w : World) (ht : tck n a = 0) (hc : chk 2 s.data.toList = 0) (hs : s.size = n) :
    Calls Try.prog 13 #[.int .i64 n, .int .i64 a, .string s] w fun e w' => e = .returned (.tuple #[.string (corr n a s).1, .int .i64 (corr n a s).2]) ∧ Below w.heap.size w w' := by
  have hn : n ≤ 64 := by have := tck_bounds ht; omega
  have hcr := corr_go ht hc (by omega) (by omega)
  have hcd : cands n s = [s] := by unfold cands; rw [if_pos (by omega)]
  rw [hcd] at hcr
  have HR := hide hcr
  have HT := hide ht
  have HC := hide hc
  have b1 : ((s.size : Int) == (n : Int) - 1) = false := by rw [beq_eq_false_iff_ne]; omega
  have b2 : ((s.size : Int) == (n : Int) + 1) = false := by rw [beq_eq_false_iff_ne]; omega
  have d1 : decide ((s.size : Int) < (n : Int) - 1) = false := by simp; omega
  have d2 : decide ((n : Int) + 1 < (s.size : Int)) = false := by simp; omega
  have hs1 : s.size ≤ 65 := by omega
  have hz : s.size ≤ 70000 := by omega
  have hcell : (w.alloc (Obj.cells #[Value.string s] 9)).cell? ⟨w.heap.size, 0, none⟩ = some (.string s) := cell_one_new _ _ _ 0 _ rfl
  clear ht hc hs hcr hcd
  by_cases hy : ((synd s.data.toList : Nat) : Int) = a
  · have hyb : (((synd s.data.toList : Nat) : Int) == a) = true := by simpa using hy
    have HF := hide (show pick a [s] = (s, 0) by unfold pick; rw [List.find?_cons, hyb])
    clear hy
    go_enter Try.func13, Try.ntmps13
    go_wp2_with (first | (go_at_call 43; refine (inside_t _ _ _ HT.out).mono ?_; rintro e w' ⟨rfl, rfl⟩) | (go_at_call 44; refine (rcheck_any _ _ _).mono ?_; rintro e w' ⟨rfl, rfl⟩; rw [HC.out]))
    refine wp_loop_rounds 1 ?_
    rw [rounds_succ]
    go_wp2_with (go_at_call 45; refine (rsynd_any s _ hz).mono ?_; rintro e w' ⟨rfl, rfl⟩)
    go_ret2
    exact ⟨by rw [HR.out, HF.out]; rfl, (Below.refl _ _).alloc (Nat.le_refl _) _⟩
  · have hyb : (((synd s.data.toList : Nat) : Int) == a) = false := by simpa using hy
    have HF := hide (show pick a [s] = (⟨#[]⟩, 22) by unfold pick; rw [List.find?_cons, hyb]; rfl)
    clear hy
    go_enter Try.func13, Try.ntmps13
    go_wp2_with (first | (go_at_call 43; refine (inside_t _ _ _ HT.out).mono ?_; rintro e w' ⟨rfl, rfl⟩) | (go_at_call 44; refine (rcheck_any _ _ _).mono ?_; rintro e w' ⟨rfl, rfl⟩; rw [HC.out]))
    refine wp_loop_rounds 2 ?_
    rw [rounds_succ]
    go_wp2_with (go_at_call 45; refine (rsynd_any s _ hz).mono ?_; rintro e w' ⟨rfl, rfl⟩)
    rw [rounds_succ]
    go_wp2
    go_ret2
    exact ⟨by rw [HR.out, HF.out]; rfl, (Below.refl _ _).alloc (Nat.le_refl _) _⟩

set_option maxRecDepth 100000 in
set_option maxHeartbeats 400000 in
theorem rcor_any (n a : Int) (s : ByteArray) (w : World) :
    Calls Try.prog 13 #[.int .i64 n, .int .i64 a, .string s] w fun e w' => e = .returned (.tuple #[.string (corr n a s).1, .int .i64 (corr n a s).2]) ∧ Below w.heap.size w w' := by
  by_cases ht : tck n a = 0
  · have hb := tck_bounds ht
    by_cases hc : chk 2 s.data.toList = 0
    · by_cases hl : (s.size : Int) < n - 1 ∨ n + 1 < (s.size : Int)
      · have HR := hide (show corr n a s = (⟨#[]⟩, 11) by unfold corr; rw [if_neg (by simp [ht]), if_neg (by simp [hc]), if_pos hl])
        have HT := hide ht
        have HC := hide hc
        obtain ⟨n, rfl⟩ := Int.eq_ofNat_of_zero_le hb.1
        have hn : n ≤ 64 := by omega
        clear ht hc hb
        by_cases h1 : (s.size : Int) < (n : Int) - 1
        · clear hl
          go_enter Try.func13, Try.ntmps13
          go_wp2_with (first | (go_at_call 43; refine (inside_t _ _ _ HT.out).mono ?_; rintro e w' ⟨rfl, rfl⟩) | (go_at_call 44; refine (rcheck_any _ _ _).mono ?_; rintro e w' ⟨rfl, rfl⟩; rw [HC.out]))
          go_ret2
          exact ⟨by rw [HR.out]; rfl, Below.refl _ _⟩
        · have h2 : (n : Int) + 1 < (s.size : Int) := by omega
          clear hl
          go_enter Try.func13, Try.ntmps13
          go_wp2_with (first | (go_at_call 43; refine (inside_t _ _ _ HT.out).mono ?_; rintro e w' ⟨rfl, rfl⟩) | (go_at_call 44; refine (rcheck_any _ _ _).mono ?_; rintro e w' ⟨rfl, rfl⟩; rw [HC.out]))
          go_ret2
          exact ⟨by rw [HR.out]; rfl, Below.refl _ _⟩
      · obtain ⟨n, rfl⟩ := Int.eq_ofNat_of_zero_le hb.1
        by_cases h1 : s.size = n
        · exact rcor_same n a s w ht hc h1
        · by_cases h2 : s.size = n + 1
          · exact rcor_del n a s w ht hc h2
          · exact rcor_ins n a s w ht hc (by omega)
    · have HR := hide (show corr n a s = (⟨#[]⟩, chk 2 s.data.toList) by unfold corr; rw [if_neg (by simp [ht]), if_pos hc])
      have HT := hide ht
      obtain ⟨c, hcc⟩ : ∃ c, c = chk 2 s.data.toList := ⟨_, rfl⟩
      rw [← hcc] at hc HR
      have HCC := hide hcc
      have hcb : (c != 0) = true := by simpa using hc
      clear ht hc hcc hb
      go_enter Try.func13, Try.ntmps13
      go_wp2_with (first | (go_at_call 43; refine (inside_t _ _ _ HT.out).mono ?_; rintro e w' ⟨rfl, rfl⟩) | (go_at_call 44; refine (rcheck_any _ _ _).mono ?_; rintro e w' ⟨rfl, rfl⟩; rw [← HCC.out]))
      go_ret2
      exact ⟨by rw [HR.out]; rfl, Below.refl _ _⟩
  · have HR := hide (show corr n a s = (⟨#[]⟩, 2) by unfold corr; rw [if_pos ht])
    have HT := hide ht
    clear ht
    go_enter Try.func13, Try.ntmps13
    go_wp2_with (go_at_call 43; refine (inside_f _ _ _ HT.out).mono ?_; rintro e w' ⟨rfl, rfl⟩)
    go_ret2
    exact ⟨by rw [HR.out]; rfl, Below.refl _ _⟩
end Go.Proofs.Ytijeogengbphdaa
