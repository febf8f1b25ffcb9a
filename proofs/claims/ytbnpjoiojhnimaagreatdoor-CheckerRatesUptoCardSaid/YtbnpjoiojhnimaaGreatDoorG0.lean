import Derived.Test.YtbnpjoiojhnimaaGreatDoorProg
import Derived.WalkKit
import Derived.Lib.Bytealg
import Derived.Laws.Externs
import Derived.Deep.QuietTactic
import Derived.BigQuiet
set_option linter.unusedSimpArgs false
set_option linter.unusedVariables false
/- Contracts of the word functions (strings.IndexByte, word.known, word.Check, grooveref07.Digit, grooveref07.Check): no condition on the input. -/
namespace Go.Proofs.YtbnpjoiojhnimaaGreatDoor
open Go.RowKit
theorem hide {p : Prop} (h : p) : Hid p := h
theorem unhide {p : Prop} (h : Hid p) : p := h
theorem bytealg_any (s : ByteArray) (c : Int) (w : World) :
 (callFunc 322 #[.string s, .int .u8 c]).run Tryz.prog w = .ok (.value (.int .i64 (Lib.indexByte s.data.toList c.toNat.toUInt8))) w := by
 rw [run_callFunc_extern Tryz.func322 (by kernel_rfl) (by kernel_rfl) (by kernel_rfl) (e := Extern.BytealgIndexByte.indexByte) (by kernel_rfl), Lib.run_indexByteString]
 rfl
theorem slite_IndexByte (s : ByteArray) (c : Int) (w : World) :
  Calls Tryz.prog 272 #[.string s, .int .u8 c] w fun e w' => e = .returned (.int .i64 (Lib.indexByte s.data.toList c.toNat.toUInt8)) ∧ w = w' := by
 have hb := bytealg_any s c w
 go_enter Tryz.func272, Tryz.ntmps272
 go_wp2
 go_ret
 exact ⟨rfl, rfl⟩
theorem strings_IndexByte (s : ByteArray) (c : Int) (w : World) :
  Calls Tryz.prog 228 #[.string s, .int .u8 c] w fun e w' => e = .returned (.int .i64 (Lib.indexByte s.data.toList c.toNat.toUInt8)) ∧ w = w' := by
 go_enter Tryz.func228, Tryz.ntmps228
 go_wp2_with (go_at_call 272; refine (slite_IndexByte _ _ _).mono ?_; rintro e w' ⟨rfl, rfl⟩)
 go_ret
 exact ⟨rfl, rfl⟩
theorem take_snoc (s : ByteArray) (k : Nat) (h : k < s.size) : s.data.toList.take (k + 1) = s.data.toList.take k ++ [s[k]] := by
 rw [List.take_succ_eq_append_getElem (by simpa using h)]; rfl
theorem mem_bytes (s : ByteArray) (k : Nat) (h : k < s.size) : s[k] ∈ s.data.toList := by
 have : s[k] = s.data.toList[k]'(by simpa using h) := rfl
 rw [this]; exact List.getElem_mem _
def lets : List UInt8 := [48, 49, 50, 51, 52, 53, 54, 55, 56, 57, 97, 98, 99, 100, 101, 102]
def dig (c : UInt8) : Int := if 48 ≤ c.toNat ∧ c.toNat ≤ 57 then (c.toNat : Int) - 48 else if 97 ≤ c.toNat ∧ c.toNat ≤ 102 then (c.toNat : Int) - 87 else -1
def okc (q : Int) (c : UInt8) : Bool := decide (0 ≤ dig c ∧ dig c < q)
def chk (q : Int) (l : List UInt8) : Int := if q < 1 ∨ 16 < q then 12 else if 65536 < l.length then 4 else if l.all (okc q) then 0 else 13
theorem index_lets : ∀ q : Fin 17, ∀ c : Fin 256, decide (Lib.indexByte (lets.take q.1) (UInt8.ofNat c.1) < 0) = !okc q.1 (UInt8.ofNat c.1) := by decide +kernel
theorem index_lets16 : ∀ c : Fin 256, Lib.indexByte lets (UInt8.ofNat c.1) = dig (UInt8.ofNat c.1) := by decide +kernel
theorem idx_lt (q : Int) (h : 1 ≤ q ∧ q ≤ 16) (c : UInt8) : decide (Lib.indexByte (List.take q.toNat [48, 49, 50, 51, 52, 53, 54, 55, 56, 57, 97, 98, 99, 100, 101, 102]) c < 0) = !okc q c := by
 have := index_lets ⟨q.toNat, by omega⟩ ⟨c.toNat, c.toNat_lt⟩
 simpa [lets, Int.toNat_of_nonneg (show 0 ≤ q by omega)] using this
theorem kn_t (q : Int) (h : 1 ≤ q ∧ q ≤ 16) (w : World) : Calls Tryz.prog 227 #[.int .i64 q] w fun e w' => e = .returned (.bool true) ∧ w = w' := by
 obtain ⟨h1, h2⟩ := h
 go_enter Tryz.func227, Tryz.ntmps227
 go_wp2
 go_ret
 exact ⟨by simp, rfl⟩
theorem kn_f (q : Int) (h : ¬ (1 ≤ q ∧ q ≤ 16)) (w : World) : Calls Tryz.prog 227 #[.int .i64 q] w fun e w' => e = .returned (.bool false) ∧ w = w' := by
 by_cases h1 : 1 ≤ q
 ·have h2 : decide (q ≤ 16) = false := by simp; omega
  have h1' : decide (1 ≤ q) = true := by simpa using h1
  go_enter Tryz.func227, Tryz.ntmps227
  go_wp2
  go_ret
  exact ⟨by simp, rfl⟩
 ·have h1' : decide (1 ≤ q) = false := by simpa using h1
  go_enter Tryz.func227, Tryz.ntmps227
  go_wp2
  go_ret
  exact ⟨by simp, rfl⟩
theorem quiet_left {P : Program} {f : FuncId} {args : Array Value} {w : World} {n : Nat} {v : Value}
  (h : Calls P f args (w.drewN n) fun e w' => e = .returned v ∧ w.drewN n = w') : Calls P f args (w.drewN n) fun e w'' => e = .returned v ∧ ∃ m, w'' = w.drewN m :=
 h.mono fun _ _ ⟨he, hw⟩ => ⟨he, n, hw.symm⟩
theorem quiet_add_left {P : Program} {f : FuncId} {args : Array Value} {w : World} {a n : Nat} {v : Value}
  (h : Calls P f args (w.drewN (a + n)) fun e w' => e = .returned v ∧ w.drewN (a + n) = w') :
  Calls P f args (w.drewN (a + n)) fun e w'' => e = .returned v ∧ ∃ m, w'' = w.drewN (a + m) :=
 h.mono fun _ _ ⟨he, hm⟩ => ⟨he, n, hm.symm⟩
theorem ret_int {k : IntKind} {a b : Int} (h : a = b) : Ending.returned (.int k a) = .returned (.int k b) := by rw [h]
set_option maxHeartbeats 400000 in
theorem wcheck_bad (q : Int) (s : ByteArray) (w : World) (h : ¬ (1 ≤ q ∧ q ≤ 16)) :
  Calls Tryz.prog 171 #[.int .i64 q, .string s] w fun e w' => e = .returned (.int .i64 (chk q s.data.toList)) ∧ ∃ n, w' = w.drewN n := by
 have hc : chk q s.data.toList = 12 := by unfold chk; rw [if_pos (by omega)]
 go_enter Tryz.func171, Tryz.ntmps171
 go_wp2_with (go_at_call 227; refine (kn_f _ h _).mono ?_; rintro e w' ⟨rfl, rfl⟩)
 go_ret
 exact ⟨ret_int hc.symm, 0, rfl⟩
set_option maxHeartbeats 400000 in
theorem wcheck_long (q : Int) (s : ByteArray) (w : World) (h : 1 ≤ q ∧ q ≤ 16) (hs : 65536 < s.size) :
  Calls Tryz.prog 171 #[.int .i64 q, .string s] w fun e w' => e = .returned (.int .i64 (chk q s.data.toList)) ∧ ∃ n, w' = w.drewN n := by
 have hc : chk q s.data.toList = 4 := by unfold chk; rw [if_neg (by omega), if_pos (by simpa using hs)]
 go_enter Tryz.func171, Tryz.ntmps171
 go_wp2_with (go_at_call 227; refine (kn_t _ h _).mono ?_; rintro e w' ⟨rfl, rfl⟩)
 go_ret
 exact ⟨ret_int hc.symm, 0, rfl⟩
set_option maxHeartbeats 400000 in
theorem wcheck_scan (q : Int) (s : ByteArray) (w : World) (h : 1 ≤ q ∧ q ≤ 16) (hs : s.size ≤ 65536) :
  Calls Tryz.prog 171 #[.int .i64 q, .string s] w fun e w' => e = .returned (.int .i64 (chk q s.data.toList)) ∧ ∃ n, w' = w.drewN n := by
 have hc : chk q s.data.toList = if s.data.toList.all (okc q) then 0 else 13 := by unfold chk; rw [if_neg (by omega), if_neg (by simpa using hs)]
 have HC := hide hc
 clear hc
 have hd : decide ((65536 : Int) < (s.size : Int)) = false := by simp; omega
 go_enter Tryz.func171, Tryz.ntmps171
 go_wp2_with (go_at_call 227; refine (kn_t _ h _).mono ?_; rintro e w' ⟨rfl, rfl⟩)
 go_loopw [16] (fun i wr => ∃ k n : Nat, k ≤ s.size ∧ i = .int .i64 k ∧ (s.data.toList.take k).all (okc q) = true ∧ wr = w.drewN n) (fun i _ => s.size - (intOf i).toNat)
 case atStart => exact ⟨0, 0, Nat.zero_le _, rfl, rfl, rfl⟩
 case round =>
  obtain ⟨k, n, hk, rfl, ha, rfl⟩ := hrel
  by_cases hlt : k < s.size
  ·have h0 : (0 : Int) ≤ q := by omega
   have h16 : q ≤ 16 := h.2
   have hk0 : (0 : Int) ≤ (k : Int) := by omega
   have hk1 : (k : Int) < (s.size : Int) := by omega
   go_wp2_with fail
   go_quiet ((go_at_call 228; exact quiet_add_left (strings_IndexByte _ _ _)))
   have hx := idx_lt q h s[k]
   have hsn : s.data.toList.take (k + 1) = s.data.toList.take k ++ [s[k]] := take_snoc s k hlt
   have HS := hide hsn
   clear hsn
   cases hok : okc q s[k]
   ·rw [hx, hok]
    clear hx
    go_wp2
    go_ret
    refine ⟨ret_int ?_, _, World.drewN_drewN _ _ _⟩
    rw [HC.out, if_neg]
    intro hall
    have := List.all_eq_true.1 hall s[k] (mem_bytes s k hlt)
    rw [hok] at this
    cases this
   ·rw [hx, hok]
    clear hx
    go_wp2
    go_roundw
    case rel => exact ⟨k + 1, n + nq, by omega, by go_num, by rw [HS.out, List.all_append, ha]; simp [hok], by simp⟩
    case measure => simp [intOf]; omega
  ·go_wp2
   go_ret
   refine ⟨ret_int ?_, _, rfl⟩
   rw [HC.out, if_pos]
   rwa [List.take_of_length_le (by simp; omega)] at ha
theorem wcheck_any (q : Int) (s : ByteArray) (w : World) :
  Calls Tryz.prog 171 #[.int .i64 q, .string s] w fun e w' => e = .returned (.int .i64 (chk q s.data.toList)) ∧ ∃ n, w' = w.drewN n := by
 by_cases h : 1 ≤ q ∧ q ≤ 16
 ·by_cases hs : s.size ≤ 65536
  ·exact wcheck_scan q s w h hs
  ·exact wcheck_long q s w h (by omega)
 ·exact wcheck_bad q s w h
theorem lets_dig : ∀ k : Fin 16, ∀ c : Fin 256, (((⟨#[48, 49, 50, 51, 52, 53, 54, 55, 56, 57, 97, 98, 99, 100, 101, 102]⟩ : ByteArray)[k.1]'k.2).toNat == c.1) = decide (dig (UInt8.ofNat c.1) = k.1) := by decide +kernel
theorem dig_range : ∀ c : Fin 256, -1 ≤ dig (UInt8.ofNat c.1) ∧ dig (UInt8.ofNat c.1) < 16 := by decide +kernel
theorem lets_at (k : Nat) (h : k < 16) (c : UInt8) : (((((⟨#[48, 49, 50, 51, 52, 53, 54, 55, 56, 57, 97, 98, 99, 100, 101, 102]⟩ : ByteArray)[k]'h).toNat : Int)) == (c.toNat : Int)) = decide (dig c = k) := by
 have := lets_dig ⟨k, h⟩ ⟨c.toNat, c.toNat_lt⟩
 simp only [UInt8.ofNat_toNat] at this
 rw [← this, Bool.eq_iff_iff]
 simp only [beq_iff_eq]
 omega
end Go.Proofs.YtbnpjoiojhnimaaGreatDoor
