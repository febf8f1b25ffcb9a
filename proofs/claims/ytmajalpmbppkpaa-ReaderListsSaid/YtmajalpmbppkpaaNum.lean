/- reader.numbers (the numbers of the sectors with a status, ascending): its contract. -/
import Derived.Test.YtmajalpmbppkpaaSec
import Derived.Test.YtmajalpmbppkpaaSrI
set_option linter.unusedVariables false
namespace Go.Proofs.Ytmajalpmbppkpaa
open Go.RowKit Go.Maps
theorem intLaw : Keyed Try.prog 3 := int_keyed Try.underlying3
theorem Try.underlyingISet : Try.prog.underlying 113 = some (.map 3 4) := by kernel_rfl
def SetI (D : DataW Unit) (S : List Int) : Prop := ∀ z, has D (.int .i64 z) = true ↔ z ∈ S
theorem SetI.put {D : DataW Unit} {S : List Int} (h : SetI D S) (hD : IsMap D) (x : Int) (d : DataW Unit) : SetI (D.put (.int .i64 x) d) (S ++ [x]) := by
  intro y
  by_cases e : y = x
  · subst e
    rw [has_put_same (k := .int .i64 y) hD (by unfold WideAt.IsKeyLit; trivial)]
    simp
  · rw [has_put_other (by simpa using e), h y]
    simp [e]
/-- the numbers of the first k sectors with that status -/
def numsOf (xs : List Sct) (st : Int) (k : Nat) : List Int := ((xs.take k).filter fun x => decide (x.st = st)).map (·.ix)
theorem numsOf_yes {xs : List Sct} {st : Int} {k : Nat} (hk : k < xs.length) (h : xs[k].st = st) : numsOf xs st (k + 1) = numsOf xs st k ++ [xs[k].ix] := by
  unfold numsOf
  rw [List.take_succ_eq_append_getElem hk, List.filter_append, List.map_append]
  simp [h]
theorem numsOf_no {xs : List Sct} {st : Int} {k : Nat} (hk : k < xs.length) (h : xs[k].st ≠ st) : numsOf xs st (k + 1) = numsOf xs st k := by
  unfold numsOf
  rw [List.take_succ_eq_append_getElem hk, List.filter_append, List.map_append]
  simp [h]
/-- ascending, and just the numbers of the sectors with that status -/
def NumRes (xs : List Sct) (st : Int) (zs : List Int) : Prop := zs.Pairwise (fun a b => a < b) ∧ ∀ z, z ∈ zs ↔ z ∈ numsOf xs st xs.length
def IStr (w : World) (B : Nat) (v : Value) (zs : List Int) : Prop := w.ownsRow B 3 1 v zs.length (zs.map (Value.int .i64))
theorem intKeys_mem {w : World} {b n : Nat} {D : DataW Unit} {S : List Int} (h : w.ownsMap Try.prog 3 (plainElem (H := Unit) Try.prog 4) b n D) (hS : SetI D S) : (intKeys D).Nodup ∧ ∀ x, x ∈ intKeys D ↔ x ∈ S := by
  obtain ⟨es, hD, hpw, _⟩ := h.entries intLaw
  obtain ⟨es', hD', hko⟩ := h.keysOf
  obtain rfl : es = es' := by rw [hD] at hD'; simpa using hD'
  subst hD
  have hk : ∀ p ∈ es, ∃ x, p.1 = .int .i64 x := fun p hp => by obtain ⟨v, hv⟩ := hko p hp; obtain ⟨x, _, hx, _⟩ := Maps.keyOf_int_inv Try.underlying3 hv; exact ⟨x, hx⟩
  refine ⟨?_, fun x => ?_⟩
  · show (es.map fun p => _root_.Go.intOf p.1).Nodup
    refine List.pairwise_map.2 (hpw.imp_of_mem fun {p q} hp' hq' hne e => hne ?_)
    obtain ⟨a, ha⟩ := hk p hp'
    obtain ⟨b, hb⟩ := hk q hq'
    rw [ha, hb] at e ⊢
    exact congrArg _ e
  · rw [← hS x, has_eq, List.any_eq_true]
    show x ∈ es.map (fun p => _root_.Go.intOf p.1) ↔ _
    rw [List.mem_map]
    constructor
    · rintro ⟨p, hp', rfl⟩
      obtain ⟨a, ha⟩ := hk p hp'
      exact ⟨p, hp', by rw [ha]; simp [Lit.sameKey, _root_.Go.intOf]⟩
    · rintro ⟨p, hp', hs⟩
      obtain ⟨a, ha⟩ := hk p hp'
      rw [ha] at hs
      exact ⟨p, hp', by rw [ha]; simpa [Lit.sameKey, _root_.Go.intOf] using hs⟩
set_option maxRecDepth 100000 in
set_option maxHeartbeats 2000000 in
theorem rdNums_any (xs : List Sct) (A : Option Addr) (c : Nat) (st : Int) (w : World) (hR : RowC w A xs) (hb : xs.length ≤ 12) (hw : ∀ x ∈ xs, (Lit.int .i64 x.ix).wf = true) :
    Calls Try.prog 58 #[.slice A xs.length c, .int .i64 st] w fun e w' => ∃ v zs, e = .returned v ∧ NumRes xs st zs ∧ IStr w' w.heap.size v zs ∧ Below w.heap.size w w' := by
  have HR := hide hR
  have HW := hide hw
  clear hR hw
  obtain ⟨B, hB⟩ : ∃ B, w.heap.size = B := ⟨_, rfl⟩
  have hmm := @run_makeMap Try.prog
  have hM := World.ownsMap_made (H := Unit) w Try.prog 3 (plainElem (H := Unit) Try.prog 4)
  rw [hB] at hM
  have hB0 := (Below.refl B w).alloc (by omega) (Obj.map #[] 0)
  go_enter Try.func58, Try.ntmps58
  go_wp2_with fail
  go_loopw [11] (fun iv wr => ∃ (k : Nat) (D : DataW Unit), iv = .int .i64 k ∧ k ≤ xs.length ∧ wr.ownsMap Try.prog 3 (plainElem (H := Unit) Try.prog 4) B k D ∧ Hid (SetI D (numsOf xs st k)) ∧ Below B w wr) (fun iv _ => xs.length - (intOf iv).toNat)
  case atStart => exact ⟨0, .map [], rfl, Nat.zero_le _, hM, hide (fun z => by simp [numsOf, has]), hB0⟩
  case round =>
    obtain ⟨k, D, rfl, hk, hm, hS, hBw⟩ := hrel
    clear hM hB0
    by_cases hlt : k < xs.length
    · obtain ⟨b0, o0, rfl, ha, hcell⟩ := (HR.out.below (by rw [hB]; exact hBw)) (by omega)
      obtain ⟨c0, c1, c2, Dd, cd, c3, hd⟩ := hcell k hlt
      have hk0 : (0 : Int) ≤ (k : Int) := by omega
      have hk1 : (k : Int) < (xs.length : Int) := by omega
      obtain ⟨ix, hix⟩ : ∃ z, z = xs[k].ix := ⟨_, rfl⟩
      obtain ⟨ps, hps⟩ : ∃ z, z = xs[k].pos := ⟨_, rfl⟩
      obtain ⟨s1, hs1⟩ : ∃ z, z = xs[k].st := ⟨_, rfl⟩
      obtain ⟨dl, hdl⟩ : ∃ z, z = xs[k].dt.length := ⟨_, rfl⟩
      rw [← hix] at c0
      rw [← hps] at c1
      rw [← hs1] at c2
      rw [← hdl] at c3
      have hBs : B ≤ wr.heap.size := by have := hBw.size; omega
      have hm2 := hm.alloc (Obj.cells #[Value.int .i64 ix, Value.int .i64 ps, Value.int .i64 s1, Value.slice Dd dl cd] 71)
      have hB2 := hBw.alloc hBs (Obj.cells #[Value.int .i64 ix, Value.int .i64 ps, Value.int .i64 s1, Value.slice Dd dl cd] 71)
      by_cases he : s1 = st
      · have HN := hide (numsOf_yes (st := st) hlt (by rw [← hs1]; exact he))
        have heb : (s1 == st) = true := by simpa using he
        have hkey := Maps.keyOf_int_mk (P := Try.prog) Try.underlying3 (show (Lit.int .i64 ix).wf = true by rw [hix]; exact HW.out _ (List.getElem_mem hlt))
        have HIX := hide hix
        obtain ⟨w2, hrun, hm3, hg3⟩ := hm2.update intLaw Try.underlyingISet (by unfold maxLen; omega) hkey (plainElem_bool Try.underlying4 true)
        have hB3 := hB2.grown hg3 (by have := hB2.size; omega) (fun j hj => by cases hj; exact Nat.le_refl _)
        have HKY := hide (show IsMap D by obtain ⟨es, e, _⟩ := hm.keysOf; exact ⟨es, e⟩)
        clear hcell hd he hix hps hs1 hdl hkey hm hm2 hB2 hBw
        go_wp2
        go_roundw
        case rel =>
          refine ⟨k + 1, _, by go_num, hlt, hm3, hide ?_, hB3⟩
          rw [HN.out, ← HIX.out]
          exact hS.out.put HKY.out _ _
        case measure => simp [intOf]; omega
      · have HN := hide (numsOf_no (st := st) hlt (by rw [← hs1]; exact he))
        have heb : (s1 == st) = false := by simpa using he
        clear hcell hd he hix hps hs1 hdl hm hBw
        go_wp2
        go_roundw
        case rel => exact ⟨k + 1, D, by go_num, hlt, hm2.mono (by omega), hide (by rw [HN.out]; exact hS.out), hB2⟩
        case measure => simp [intOf]; omega
    · obtain rfl : k = xs.length := by omega
      have hmem := intKeys_mem hm hS.out
      have hsz : Maps.size D ≤ 12 := by
        have := World.ownsMap.size_le hm
        omega
      clear hS
      go_wp2_with fail
      refine (callsIn_wide.1 (Try.maps_Keys_85 (some B) wr)).mono ?_
      rintro e w3 ⟨rfl, rfl⟩
      have hK := callsIn_wide.1 (Try.slices_Sorted_keys_84_85 B _ D _ wr hm (by unfold maxLen; omega) (by omega))
      have hBs : B ≤ wr.heap.size := by have := hBw.size; omega
      have hB4 := hBw.alloc hBs (Obj.cells #[Value.map (some B)] 113)
      go_wp2_with fail
      refine hK.mono ?_
      rintro e w4 ⟨v, ss, rfl, hperm, hrowS, hnil, hB5⟩
      have hB6 := hB4.trans (hB5.mono (by simp; omega))
      have HP := hide hperm
      clear hK hB5 hB4 hBw hperm
      go_wp2
      go_ret
      have tr : ∀ a b c : Int, decide (a ≤ b) = true → decide (b ≤ c) = true → decide (a ≤ c) = true := fun a b c h1 h2 => by simp only [decide_eq_true_eq] at *; omega
      have to : ∀ a b : Int, (decide (a ≤ b) || decide (b ≤ a)) = true := fun a b => by simp only [Bool.or_eq_true, decide_eq_true_eq]; omega
      have h1 := List.pairwise_mergeSort tr to ss
      have h2 : (ss.mergeSort fun x y => decide (x ≤ y)).Nodup := (List.mergeSort_perm ss _).nodup_iff.2 (HP.out.nodup_iff.2 hmem.1)
      refine ⟨v, ss.mergeSort (fun x y => decide (x ≤ y)), rfl, ⟨(h1.and h2).imp fun {a b} h => ?_, fun z => ?_⟩, ?_, ?_⟩
      · have := h.1
        have hne := h.2
        simp only [decide_eq_true_eq] at this
        omega
      · rw [(List.mergeSort_perm ss _).mem_iff, HP.out.mem_iff, hmem.2]
      · unfold IStr World.ownsRow
        rw [List.length_mergeSort]
        unfold World.ownsRow at hrowS
        refine ⟨hrowS.1, ?_⟩
        rcases hrowS.2 with h' | ⟨g, cap, cur, h1, h2, h3⟩
        · exact .inl h'
        · exact .inr ⟨g, cap, cur, h1, by simp at h2; omega, h3⟩
      · first | exact hB6 | (rw [hB]; exact hB6)
end Go.Proofs.Ytmajalpmbppkpaa
