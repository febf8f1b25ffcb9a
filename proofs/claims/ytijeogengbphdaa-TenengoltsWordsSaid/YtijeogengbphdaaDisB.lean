/- indel.table, indel.check, indel.Distance: contracts for any strings. -/
import Derived.Test.YtijeogengbphdaaTab
import Derived.Test.YtijeogengbphdaaEq
import Derived.Test.YtijeogengbphdaaBytes
set_option linter.unusedVariables false
namespace Go.Proofs.Ytijeogengbphdaa
open Go.RowKit
theorem below2 {w w1 w2 : World} (h1 : Below w.heap.size w w1) (h2 : Below w1.heap.size w1 w2) : Below w.heap.size w w2 := h1.trans (h2.mono h1.size)
theorem infoInt : (Try.prog.info? 3).map (fun i => (i.zero, i.size, i.bytes)) = some (some (.int .i64 0), 1, 8) := by kernel_rfl
theorem made_ints (z : Value) (hz : z.cells = #[z]) (n : Nat) : madeCells z.cells n = (List.replicate n z).toArray := by
  unfold madeCells
  rw [hz]
  apply Array.ext
  · simp
  · intro i h1 h2
    simp [Nat.mod_one]
theorem run_make_ints (n : Nat) (hn : n ≤ 70000) (w : World) :
    (Instr.makeSlice 104 (.int .i64 (n : Int)) (.int .i64 (n : Int))).run Try.prog w = .ok (.slice (some ⟨w.heap.size, 0, none⟩) n n) (w.alloc (.cells ((List.replicate n (0 : Int)).map (Value.int .i64)).toArray 3)) := by
  obtain ⟨i0, hi, hz0, hz1, hz2⟩ := info_parts infoInt
  have h := run_make (P := Try.prog) w 104 3 i0 _ Try.underlying104 hi hz0 .i64 .i64 n n (by omega) (by omega) (by rw [hz2]; omega) (by omega)
  simp only [Int.toNat_natCast, hz1, Nat.mul_one] at h
  rw [h, made_ints _ rfl]
  simp
theorem push_old (a : Array Obj) (o : Obj) (i : Nat) (h : i < a.size) : (a.push o)[i]? = a[i]? := by rw [Array.getElem?_push, if_neg (by omega)]
theorem push_new (a : Array Obj) (o : Obj) (i : Nat) (h : i = a.size) : (a.push o)[i]? = some o := by rw [Array.getElem?_push, if_pos h]
theorem heap_push (w : World) (o : Obj) : (w.alloc o).heap = w.heap.push o := rfl
set_option maxRecDepth 100000 in
set_option maxHeartbeats 1000000 in
theorem table_any (u v : ByteArray) (hu : u.size ≤ 256) (hv : v.size ≤ 256) (w : World) :
    Calls Try.prog 68 #[.string u, .string v] w fun e w' => e = .returned (.func (.func 90) #[] #[.pointer (some ⟨w.heap.size, 0, none⟩), .pointer (some ⟨w.heap.size + 1, 0, none⟩), .pointer (some ⟨w.heap.size + 3, 0, none⟩), .pointer (some ⟨w.heap.size + 4, 0, none⟩)]) ∧ Tab w' w.heap.size u v ∧ Below w.heap.size w w' := by
  obtain ⟨N, hN⟩ : ∃ N, N = (u.size + 1) * (v.size + 1) := ⟨_, rfl⟩
  have hN2 : (u.size + 1) * (v.size + 1) ≤ 257 * 257 := Nat.mul_le_mul (by omega) (by omega)
  rw [← hN] at hN2
  have hpI : ((u.size : Int) + 1) * ((v.size : Int) + 1) = (N : Int) := by rw [hN]; simp
  have HN := hide hN
  have hmk := fun W => run_make_ints N (by omega) W
  clear hN
  have hsf : ∀ (a : Addr) (m : Mode) (fn : Fn) (first cap : Array Value) (W : World), (store a (.func fn first cap) m).run Try.prog W = stored Try.prog W a (.func fn first cap) m := fun a m fn first cap W => run_store Try.prog W a _ m rfl
  go_enter Try.func68, Try.ntmps68
  go_wp2
  go_ret
  have HB : Below w.heap.size w (((((w.alloc (Obj.cells #[Value.string u] 9)).alloc (Obj.cells #[Value.string v] 9)).alloc (Obj.cells (Array.replicate N (Value.int IntKind.i64 0)) 3)).alloc (Obj.cells #[Value.slice (some { block := w.heap.size + 1 + 1, off := 0 }) N N] 104)).alloc (Obj.cells #[Value.func (Fn.func 90) #[] #[.pointer (some ⟨w.heap.size, 0, none⟩), .pointer (some ⟨w.heap.size + 1, 0, none⟩), .pointer (some ⟨w.heap.size + 1 + 1 + 1, 0, none⟩), .pointer (some ⟨w.heap.size + 1 + 1 + 1 + 1, 0, none⟩)]] 88)) := by
    refine (((((Below.refl _ w).alloc ?_ _).alloc ?_ _).alloc ?_ _).alloc ?_ _).alloc ?_ _ <;> simp <;> omega
  refine ⟨rfl, ⟨?_, ?_, ?_, ?_, List.replicate N 0, ?_, ?_, ?_⟩, HB⟩
  · (simp only [heap_push]; repeat rw [push_old _ _ _ (by simp only [Array.size_push]; omega)]); rw [push_new _ _ _ (by simp)]
  · (simp only [heap_push]; repeat rw [push_old _ _ _ (by simp only [Array.size_push]; omega)]); rw [push_new _ _ _ (by simp)]
  · rw [← HN.out]; (simp only [heap_push]; repeat rw [push_old _ _ _ (by simp only [Array.size_push]; omega)]); rw [push_new _ _ _ (by simp)]
  · (simp only [heap_push]; repeat rw [push_old _ _ _ (by simp only [Array.size_push]; omega)]); rw [push_new _ _ _ (by simp)]
  · unfold Nums; (simp only [heap_push]; repeat rw [push_old _ _ _ (by simp only [Array.size_push]; omega)]); rw [push_new _ _ _ (by simp)]; simp
  · simp [HN.out]
  · intro i k hi hk
    have := tab_lt hi hk
    rw [← HN.out] at this
    left
    simp [this]
def ckf : List ByteArray → Int
  | [] => 0
  | s :: l => if chk 16 s.data.toList = 0 then ckf l else chk 16 s.data.toList
def ckl (l : List ByteArray) : Int := if l.all (fun s => decide (s.size ≤ 256)) then ckf l else 4
theorem ckf_drop (l : List ByteArray) (k : Nat) (h : ∀ j (hj : j < l.length), j < k → chk 16 l[j].data.toList = 0) : ckf l = ckf (l.drop k) := by
  induction k with
  | zero => simp
  | succ k ih =>
    rw [ih fun j hj hk => h j hj (by omega)]
    by_cases hk : k < l.length
    · rw [List.drop_eq_getElem_cons hk, ckf, if_pos (h k hk (by omega))]
    · rw [List.drop_of_length_le (by omega), List.drop_of_length_le (by omega)]
set_option maxRecDepth 100000 in
set_option maxHeartbeats 1000000 in
theorem icheck_any (xs : List ByteArray) (g c : Nat) (w : World) (h1 : ∀ k (hk : k < xs.length), w.cell? ⟨g, k, none⟩ = some (.string xs[k])) (hb : xs.length ≤ 4294967296) :
    Calls Try.prog 64 #[.slice (some ⟨g, 0, none⟩) xs.length c] w fun e w' => e = .returned (.int .i64 (ckl xs)) ∧ ∃ q, w' = w.drewN q := by
  have H1 := hide h1
  clear h1
  go_enter Try.func64, Try.ntmps64
  go_wp2
  go_loopw [10] (fun i wr => ∃ k q : Nat, k ≤ xs.length ∧ i = .int .i64 k ∧ Hid (∀ j (hj : j < xs.length), j < k → xs[j].size ≤ 256) ∧ wr = w.drewN q) (fun i _ => xs.length - (intOf i).toNat)
  case atStart => exact ⟨0, 0, Nat.zero_le _, rfl, hide fun j _ h => absurd h (by omega), rfl⟩
  case round =>
    obtain ⟨k, q, hk, rfl, hs, rfl⟩ := hrel
    by_cases hlt : k < xs.length
    · have c1 := H1.out k hlt
      obtain ⟨a, ha⟩ : ∃ a, a = xs[k] := ⟨_, rfl⟩
      rw [← ha] at c1
      have HA := hide ha
      clear ha
      have hk0 : (0 : Int) ≤ (k : Int) := by omega
      have hk1 : (k : Int) < (xs.length : Int) := by omega
      by_cases h6 : a.size ≤ 256
      · have h6' : ¬ (256 : Int) < (a.size : Int) := by omega
        go_wp2
        go_roundw
        case rel =>
          refine ⟨k + 1, q, by omega, by go_num, hide fun j hj hjk => ?_, by simp⟩
          by_cases e : j < k
          · exact hs.out j hj e
          · obtain rfl : j = k := by omega
            rw [← HA.out]; exact h6
        case measure => simp [intOf]; omega
      · have h6' : (256 : Int) < (a.size : Int) := by omega
        go_wp2
        go_ret
        have hck : ckl xs = 4 := by
          unfold ckl
          rw [if_neg]
          intro h
          rw [List.all_eq_true] at h
          have := h xs[k] (List.getElem_mem hlt)
          rw [← HA.out] at this
          simp at this
          omega
        exact ⟨by rw [hck]; rfl, q, rfl⟩
    · obtain rfl : k = xs.length := by omega
      have hall : ckl xs = ckf xs := by
        unfold ckl
        rw [if_pos]
        rw [List.all_eq_true]
        intro x hx
        obtain ⟨j, hj, rfl⟩ := List.getElem_of_mem hx
        simpa using hs.out j hj hj
      have HK := hide hall
      clear hall
      go_wp2
      go_loopw [20] (fun i wr => ∃ k q : Nat, k ≤ xs.length ∧ i = .int .i64 k ∧ Hid (∀ j (hj : j < xs.length), j < k → chk 16 xs[j].data.toList = 0) ∧ wr = w.drewN q) (fun i _ => xs.length - (intOf i).toNat)
      case atStart => exact ⟨0, q, Nat.zero_le _, rfl, hide fun j _ h => absurd h (by omega), rfl⟩
      case round =>
        obtain ⟨k, q', hk, rfl, hs', rfl⟩ := hrel
        by_cases hlt : k < xs.length
        · have c1 := H1.out k hlt
          obtain ⟨a, ha⟩ : ∃ a, a = xs[k] := ⟨_, rfl⟩
          rw [← ha] at c1
          have HA := hide ha
          clear ha
          have hk0 : (0 : Int) ≤ (k : Int) := by omega
          have hk1 : (k : Int) < (xs.length : Int) := by omega
          by_cases h6 : chk 16 a.data.toList = 0
          · have H6 := hide h6
            clear h6
            go_wp2_with (go_at_call 40; refine (wcheck_any _ _ _).mono ?_; rintro e w1 ⟨rfl, n1, rfl⟩; rw [H6.out])
            go_roundw
            case rel =>
              refine ⟨k + 1, q' + n1, by omega, by go_num, hide fun j hj hjk => ?_, by simp⟩
              by_cases e : j < k
              · exact hs'.out j hj e
              · obtain rfl : j = k := by omega
                rw [← HA.out]; exact H6.out
            case measure => simp [intOf]; omega
          · have hck : ckl xs = chk 16 a.data.toList := by
              rw [HK.out, ckf_drop xs k (fun j hj hjk => hs'.out j hj hjk), List.drop_eq_getElem_cons hlt, ckf, ← HA.out, if_neg h6]
            have HC := hide hck
            have h7 : (chk 16 a.data.toList != 0) = true := by simpa using h6
            obtain ⟨z, hz⟩ : ∃ z, z = chk 16 a.data.toList := ⟨_, rfl⟩
            rw [← hz] at h7 HC
            have HZ := hide hz
            clear hck h6 hz
            go_wp2_with (go_at_call 40; refine (wcheck_any _ _ _).mono ?_; rintro e w1 ⟨rfl, n1, rfl⟩; rw [← HZ.out])
            go_ret
            exact ⟨by rw [HC.out]; rfl, q' + n1, by simp⟩
        · obtain rfl : k = xs.length := by omega
          have hck : ckl xs = 0 := by
            rw [HK.out, ckf_drop xs xs.length (fun j hj hjk => hs'.out j hj hjk), List.drop_length, ckf]
          go_wp2
          go_ret
          exact ⟨by rw [hck]; rfl, q', rfl⟩
theorem table_b (u v : ByteArray) (hu : u.size ≤ 256) (hv : v.size ≤ 256) (w : World) (B : Nat) (hB : w.heap.size = B) :
    Calls Try.prog 68 #[.string u, .string v] w fun e w' => e = .returned (.func (.func 90) #[] #[.pointer (some ⟨B, 0, none⟩), .pointer (some ⟨B + 1, 0, none⟩), .pointer (some ⟨B + 3, 0, none⟩), .pointer (some ⟨B + 4, 0, none⟩)]) ∧ Tab w' B u v ∧ Below B w w' := by
  subst hB
  exact table_any u v hu hv w
theorem lcsAt_zero (u v : ByteArray) : lcsAt u v 0 0 = lcs u.data.toList v.data.toList := by simp [lcsAt]
theorem ckl_sizes {l : List ByteArray} (h : ckl l = 0) : ∀ s ∈ l, s.size ≤ 256 := by
  unfold ckl at h
  split at h
  · rename_i h1
    rw [List.all_eq_true] at h1
    intro s hs
    simpa using h1 s hs
  · omega
def dst (u v : ByteArray) : Nat := dist u.data.toList v.data.toList
theorem dst_eq (u v : ByteArray) : (u.size : Int) + v.size - 2 * (lcsAt u v 0 0 : Int) = (dst u v : Int) := by
  have := dist_lcs u.data.toList v.data.toList
  rw [lcsAt_zero]
  simp at this
  unfold dst
  omega
theorem lcsAt_le0 (u v : ByteArray) : lcsAt u v 0 0 ≤ u.size ∧ lcsAt u v 0 0 ≤ v.size := by
  rw [lcsAt_zero]
  exact ⟨by simpa using lcs_le_left u.data.toList v.data.toList, by simpa using lcs_le_right u.data.toList v.data.toList⟩
theorem tab_at0 (u v : ByteArray) (hu : u.size ≤ 256) (hv : v.size ≤ 256) (B : Nat) (w : World) (hT : Tab w B u v) :
    Calls Try.prog 90 #[.int .i64 0, .int .i64 0, .pointer (some ⟨B, 0, none⟩), .pointer (some ⟨B + 1, 0, none⟩), .pointer (some ⟨B + 3, 0, none⟩), .pointer (some ⟨B + 4, 0, none⟩)] w
      fun e w' => e = .returned (.int .i64 ((lcsAt u v 0 0 : Nat) : Int)) ∧ Tab w' B u v ∧ One (B + 2) w w' := by
  have h := tab_at u v hu hv B (u.size + v.size) 0 0 (Nat.zero_le _) (Nat.zero_le _) (by omega) w hT
  rw [show ((0 : Nat) : Int) = 0 from rfl] at h
  exact h
def distV (u v : ByteArray) : Int × Int := if ckl [u, v] = 0 then ((dst u v : Nat), 0) else (0, ckl [u, v])
end Go.Proofs.Ytijeogengbphdaa
