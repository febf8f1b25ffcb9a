/- indel.Insertions: its contract for any number and string. -/
import Derived.Test.YtmajalpmbppkpaaDel
import Derived.KernelRfl
set_option linter.unusedVariables false
namespace Go.Proofs.Ytmajalpmbppkpaa
open Go.RowKit Go.Maps
theorem lsl (d : Nat) (hd : d < 16) (W : World) : (Instr.slice 9 (.string ⟨#[48, 49, 50, 51, 52, 53, 54, 55, 56, 57, 97, 98, 99, 100, 101, 102]⟩) (some (.int .i64 (d : Int))) (some (.int .i64 ((d : Int) + 1))) none).run Try.prog W = .ok (.string ((⟨#[48, 49, 50, 51, 52, 53, 54, 55, 56, 57, 97, 98, 99, 100, 101, 102]⟩ : ByteArray).extract d (d + 1))) W := by
  have : d = 0 ∨ d = 1 ∨ d = 2 ∨ d = 3 ∨ d = 4 ∨ d = 5 ∨ d = 6 ∨ d = 7 ∨ d = 8 ∨ d = 9 ∨ d = 10 ∨ d = 11 ∨ d = 12 ∨ d = 13 ∨ d = 14 ∨ d = 15 := by omega
  rcases this with rfl | rfl | rfl | rfl | rfl | rfl | rfl | rfl | rfl | rfl | rfl | rfl | rfl | rfl | rfl | rfl <;> (show _ = _; kernel_rfl)
/-- one letter put in: the one with number c, ahead of offset i -/
def insC (s : ByteArray) (i c : Nat) : ByteArray := s.extract 0 i ++ (⟨#[48, 49, 50, 51, 52, 53, 54, 55, 56, 57, 97, 98, 99, 100, 101, 102]⟩ : ByteArray).extract c (c + 1) ++ s.extract i s.size
def insRow (s : ByteArray) (i c : Nat) : List (List UInt8) := (List.range c).map fun d => (insC s i d).data.toList
def inss (s : ByteArray) (q i : Nat) : List (List UInt8) := (List.range i).flatMap fun j => insRow s j q
theorem insRow_succ (s : ByteArray) (i c : Nat) : insRow s i (c + 1) = insRow s i c ++ [(insC s i c).data.toList] := by
  unfold insRow; rw [List.range_succ, List.map_append]; rfl
theorem inss_succ (s : ByteArray) (q i : Nat) : inss s q (i + 1) = inss s q i ++ insRow s i q := by
  unfold inss; rw [List.range_succ, List.flatMap_append]; simp
theorem insC_size (s : ByteArray) (i c : Nat) (hi : i ≤ s.size) (hc : c < 16) : (insC s i c).size = s.size + 1 := by
  unfold insC
  have : (⟨#[48, 49, 50, 51, 52, 53, 54, 55, 56, 57, 97, 98, 99, 100, 101, 102]⟩ : ByteArray).size = 16 := rfl
  simp [this]; omega
def insE (q : Int) (s : ByteArray) : Int := if q < 1 ∨ 16 < q then 12 else if 256 ≤ s.size then 4 else chk q s.data.toList
def InsRes (q : Nat) (s : ByteArray) (rs : List ByteArray) : Prop := rs.Pairwise (fun a b => a.data.toList < b.data.toList) ∧ ∀ x : ByteArray, x ∈ rs ↔ x.data.toList ∈ inss s q (s.size + 1)
set_option maxRecDepth 100000 in
set_option maxHeartbeats 2000000 in
theorem ins_ok (q : Nat) (s : ByteArray) (hq : 1 ≤ q ∧ q ≤ 16) (hs : s.size < 256) (hc : chk q s.data.toList = 0) (w : World) :
    Calls Try.prog 38 #[.int .i64 (q : Int), .string s] w fun e w' => ∃ vl, e = .returned (.tuple #[vl, .int .i64 0]) ∧ (∃ rs, Strs w' w.heap.size vl rs ∧ InsRes q s rs) ∧ Below w.heap.size w w' := by
  obtain ⟨hq1, hq2⟩ := hq
  have hn1 : decide ((q : Int) < 1) = false := decide_eq_false (by omega)
  have hn2 : decide (16 < (q : Int)) = false := decide_eq_false (by omega)
  have hn3 : decide (256 ≤ (s.size : Int)) = false := decide_eq_false (by omega)
  have HC := hide hc
  clear hc
  have hmm := @run_makeMap Try.prog
  go_enter Try.func38, Try.ntmps38
  go_wp2_with (go_at_call 61; refine (wcheck_any _ _ _).mono ?_; rintro e w1 ⟨rfl, n1, rfl⟩; rw [HC.out])
  have hM := World.ownsMap_made (H := Unit) (w.drewN n1) Try.prog 9 (plainElem (H := Unit) Try.prog 4)
  obtain ⟨b, hb⟩ : ∃ b, w.heap.size = b := ⟨_, rfl⟩
  have hM2 : ((w.drewN n1).alloc (Obj.map #[] 0)).ownsMap Try.prog 9 (plainElem (H := Unit) Try.prog 4) b 0 (.map []) := by rw [← hb]; simpa using hM
  have hB0 : Below b w ((w.drewN n1).alloc (Obj.map #[] 0)) := (belowN (Below.refl _ w) n1).alloc (by rw [← hb]; simp) _
  clear hM hmm
  rw [hb]
  go_wp2_with fail
  go_loopw [29] (fun i wr => ∃ (k : Nat) (D : DataW Unit), k ≤ s.size + 1 ∧ i = .int .i64 k ∧ wr.ownsMap Try.prog 9 (plainElem (H := Unit) Try.prog 4) b (k * 16) D ∧ Hid (SetIs D (inss s q k)) ∧ Below b w wr) (fun i _ => s.size + 1 - (intOf i).toNat)
  case atStart => exact ⟨0, .map [], Nat.zero_le _, rfl, hM2, hide (fun x => by simp [inss, has]), hB0⟩
  case round =>
    obtain ⟨k, D, hk, rfl, hm, hS, hB⟩ := hrel
    clear hM2 hB0
    by_cases hlt : k < s.size + 1
    · obtain ⟨wo, rfl⟩ : ∃ wo : World, wo = wr := ⟨_, rfl⟩
      have hkd : decide ((k : Int) < (s.size : Int) + 1) = true := decide_eq_true (by omega)
      have hk0 : (0 : Int) ≤ (k : Int) := by omega
      have hk1 : (k : Int) ≤ (s.size : Int) := by omega
      have hk2 : k ≤ s.size := by omega
      go_wp2_with fail
      go_loopw [33] (fun i wr => ∃ (c : Nat) (D : DataW Unit), c ≤ q ∧ i = .int .i64 c ∧ wr.ownsMap Try.prog 9 (plainElem (H := Unit) Try.prog 4) b (k * 16 + c) D ∧ Hid (SetIs D (inss s q k ++ insRow s k c)) ∧ Below b w wr) (fun i _ => q - (intOf i).toNat)
      case atStart => exact ⟨0, D, Nat.zero_le _, rfl, hm, hide (by simpa [insRow] using hS.out), hB⟩
      case round =>
        obtain ⟨c, D', hcq, rfl, hm', hS', hB'⟩ := hrel
        clear hm hS hB
        by_cases hlc : c < q
        · have hc16 : c < 16 := by omega
          have hks : k ≤ s.size := by omega
          have hsl := fun W => lsl c hc16 W
          have HSZ := insC_size s k c hks hc16
          have HROW := hide (insRow_succ s k c)
          have hkey := WideMaps.keyOf_string_mk (P := Try.prog) Try.underlying9 (show (insC s k c).size ≤ maxLen by rw [HSZ]; unfold maxLen; omega)
          have HKY := hide hkey
          have hm2 : wr.drew.ownsMap Try.prog 9 (plainElem (H := Unit) Try.prog 4) b (k * 16 + c) D' := hm'
          obtain ⟨w2, hrun, hm3, hg3⟩ := hm2.update strLaw Try.underlying97 (by unfold maxLen; omega) HKY.out (plainElem_bool Try.underlying4 true)
          unfold insC at hrun
          obtain ⟨cs, hcs⟩ : ∃ cs, cs = (⟨#[48, 49, 50, 51, 52, 53, 54, 55, 56, 57, 97, 98, 99, 100, 101, 102]⟩ : ByteArray).extract c (c + 1) := ⟨_, rfl⟩
          have hcz : cs.size ≤ 1 := by rw [hcs]; simp; omega
          rw [← hcs] at hrun hsl
          have HCS := hide hcs
          clear hkey hcs HSZ hm2
          have hc0 : (0 : Int) ≤ (c : Int) := by omega
          go_wp2_with fail
          have q0 : IntKind.i64.wrap ((c : Int) + 1) = (c : Int) + 1 := IntWalk.i64_in _ (by omega)
          have q1 : ¬ 9223372036854775807 < k + cs.size := by omega
          have q2 : ¬ 9223372036854775807 < k + cs.size + (s.size - k) := by omega
          go_region_held3 (fun _ => True) (exact trivial) (fail)
          clear q0 q1 q2
          have hB3 : Below b w w2 := hB'.drew.grown hg3 (by have := hm'.lt; simp; omega) (fun j hj => by cases hj; exact Nat.le_refl _)
          go_wp2
          go_roundw
          case rel =>
            refine ⟨c + 1, _, by omega, by go_num, hm3, hide ?_, hB3⟩
            rw [HROW.out, ← List.append_assoc]
            exact hS'.out.put (by obtain ⟨es, e, _⟩ := hm'.keysOf; exact ⟨es, e⟩) _ _
          case measure => simp [intOf]; omega
        · obtain rfl : c = q := by omega
          go_wp2
          go_roundw
          case rel =>
            refine ⟨k + 1, D', by omega, by go_num, hm'.mono (by omega), hide ?_, hB'⟩
            rw [inss_succ]
            exact hS'.out
          case measure => simp [intOf]; omega
    · obtain rfl : k = s.size + 1 := by omega
      have hmem := strKeys_mem hm hS.out
      have hsz : Maps.size D ≤ 4096 + 16 := by
        have := World.ownsMap.size_le hm
        omega
      clear hS
      go_wp2_with fail
      refine (callsIn_wide.1 (Try.maps_Keys_74 (some b) wr)).mono ?_
      rintro e w3 ⟨rfl, rfl⟩
      have hK := callsIn_wide.1 (Try.slices_Sorted_keys_73_74 b _ D _ wr hm (by unfold maxLen; omega) (by omega))
      have hbl := hm.lt
      have hB4 := hB.alloc (by omega) (Obj.cells #[Value.map (some b)] 97)
      go_wp2_with fail
      refine hK.mono ?_
      rintro e w4 ⟨v, ss, rfl, hperm, hrowS, hnil, hB5⟩
      have hB6 := hB4.trans (hB5.mono (by simp; omega))
      clear hK hB5 hB4 hB
      go_wp2
      go_ret2
      have hnd : ss.Nodup := hperm.nodup_iff.2 hmem.1
      obtain ⟨r1, r2⟩ := sorted_res hnd
      refine ⟨v, rfl, ⟨bas (ss.mergeSort leB), ?_, r1, fun x => ?_⟩, hb ▸ hB6⟩
      · have hlen : (bas (ss.mergeSort leB)).length = ss.length := by unfold bas; simp
        unfold Strs
        rw [hlen]
        have he : (bas (ss.mergeSort leB)).map Value.string = (ss.mergeSort leB).map encStr := by unfold bas; rw [List.map_map]; rfl
        rw [he]
        unfold World.ownsRow at hrowS ⊢
        refine ⟨hrowS.1, ?_⟩
        rcases hrowS.2 with h' | ⟨g, cap, cur, h1, h2, h3⟩
        · exact .inl h'
        · exact .inr ⟨g, cap, cur, h1, by simp at h2; omega, h3⟩
      · rw [r2, hperm.mem_iff, hmem.2]
end Go.Proofs.Ytmajalpmbppkpaa
