/- indel.shorter and indel.Deletions: contracts for any string. -/
import Derived.Test.YtijeogengbphdaaSrt
import Derived.Test.YtijeogengbphdaaDisB
import Derived.Test.YtijeogengbphdaaRCor
import Derived.Maps.Own
import Derived.Maps.Views
import Derived.Maps.OwnSet
import Derived.Sort.KeysCollected
set_option linter.unusedVariables false
namespace Go.Proofs.Ytijeogengbphdaa
open Go.RowKit Go.Maps
/-- the word has a run that begins at i -/
def runAt (w : ByteArray) (i : Nat) : Bool := decide (i = 0) || (w.data.toList.getD i 0 != w.data.toList.getD (i - 1) 0)
/-- the datum D is a set of strings: those of S -/
def SetIs (D : DataW Unit) (S : List (List UInt8)) : Prop := ∀ x, has D (.string x) = true ↔ x ∈ S
theorem strLaw : Keyed Try.prog 9 := string_keyed Try.underlying9
def dels (w : ByteArray) (k : Nat) : List (List UInt8) := ((List.range k).filter (runAt w)).map fun i => (delB w i).data.toList
theorem dels_yes {w : ByteArray} {k : Nat} (h : runAt w k = true) : dels w (k + 1) = dels w k ++ [(delB w k).data.toList] := by
  unfold dels; rw [List.range_succ, List.filter_append, List.map_append]; simp [h]
theorem dels_no {w : ByteArray} {k : Nat} (h : runAt w k = false) : dels w (k + 1) = dels w k := by
  unfold dels; rw [List.range_succ, List.filter_append, List.map_append]; simp [h]
theorem SetIs.put {D : DataW Unit} {S : List (List UInt8)} (h : SetIs D S) (hD : IsMap D) (x : List UInt8) (d : DataW Unit) : SetIs (D.put (.string x) d) (S ++ [x]) := by
  intro y
  by_cases e : y = x
  · subst e
    rw [has_put_same (k := .string y) hD (by unfold WideAt.IsKeyLit; trivial)]
    simp
  · rw [has_put_other (by simpa using e), h y]
    simp [e]
theorem run_bytes {s : ByteArray} {k : Nat} (hk : k < s.size) : runAt s k = (decide (k = 0) || (s[k] != s[k - 1])) := by
  unfold runAt
  have h1 : s.data.toList.getD k 0 = s[k] := by
    have : k < s.data.toList.length := by simpa using hk
    rw [List.getD_eq_getElem?_getD, List.getElem?_eq_getElem this]; rfl
  have h2 : s.data.toList.getD (k - 1) 0 = s[k - 1] := by
    have : k - 1 < s.data.toList.length := by simp; omega
    rw [List.getD_eq_getElem?_getD, List.getElem?_eq_getElem this]; rfl
  rw [h1, h2]
theorem run_ne {s : ByteArray} {k j : Nat} (hk : k < s.size) (hjs : j < s.size) (h0 : k ≠ 0) (hj : j = k - 1) (h : runAt s k = true) : (((s[k].toNat : Nat) : Int) != ((s[j].toNat : Nat) : Int)) = true := by
  subst hj
  rw [run_bytes hk] at h
  simp [h0] at h ⊢
  intro e
  apply h
  exact UInt8.toNat_inj.1 (by omega)
theorem run_eq {s : ByteArray} {k j : Nat} (hk : k < s.size) (hjs : j < s.size) (h0 : k ≠ 0) (hj : j = k - 1) (h : runAt s k = false) : (((s[k].toNat : Nat) : Int) != ((s[j].toNat : Nat) : Int)) = false := by
  subst hj
  rw [run_bytes hk] at h
  simp [h0] at h ⊢
  rw [h]
set_option maxRecDepth 100000 in
set_option maxHeartbeats 1000000 in
theorem shorter_any (s : ByteArray) (hs : s.size ≤ 65536) (b n : Nat) (D : DataW Unit) (S : List (List UInt8)) (w : World) (hown : w.ownsMap Try.prog 9 (plainElem (H := Unit) Try.prog 4) b n D) (hS : SetIs D S) (hn : n + s.size ≤ 1000000000) :
    Calls Try.prog 65 #[.string s, .map (some b)] w fun e w' => e = .returned (.tuple #[]) ∧ (∃ D', w'.ownsMap Try.prog 9 (plainElem (H := Unit) Try.prog 4) b (n + s.size) D' ∧ SetIs D' (S ++ dels s s.size)) ∧ Below b w w' := by
  go_enter Try.func65, Try.ntmps65
  go_wp2
  go_loopw [7] (fun i wr => ∃ (k : Nat) (D' : DataW Unit), k ≤ s.size ∧ i = .int .i64 k ∧ wr.ownsMap Try.prog 9 (plainElem (H := Unit) Try.prog 4) b (n + k) D' ∧ Hid (SetIs D' (S ++ dels s k)) ∧ Below b w wr) (fun i _ => s.size - (intOf i).toNat)
  case atStart => exact ⟨0, D, Nat.zero_le _, rfl, hown, hide (by simpa [dels] using hS), Below.refl _ _⟩
  case round =>
    obtain ⟨k, D', hk, rfl, hm, hS', hB⟩ := hrel
    clear hown hS
    by_cases hlt : k < s.size
    · have hk0 : (0 : Int) ≤ (k : Int) := by omega
      have hk1 : (k : Int) < (s.size : Int) := by omega
      by_cases hr : runAt s k = true
      · have hkey := WideMaps.keyOf_string_mk (P := Try.prog) Try.underlying9 (show (delB s k).size ≤ maxLen by unfold delB maxLen; simp; omega)
        have HD := hide (dels_yes hr)
        have HKY := hide hkey
        have q1 : IntKind.i64.wrap ((k : Int) + 1) = (k : Int) + 1 := IntWalk.i64_in _ (by omega)
        have q2 : (0 : Int) ≤ (k : Int) + 1 := by omega
        have q3 : ((k : Int) + 1).toNat = k + 1 := by omega
        have q4 : (k : Int) + 1 ≤ (s.size : Int) := by omega
        have q5 : ¬ 9223372036854775807 < k + (s.size - (k + 1)) := by omega
        by_cases h0 : k = 0
        · have hkt : ((k : Int) == 0) = true := by rw [beq_iff_eq]; omega
          clear h0
          go_wp2_with fail
          go_quiet (fail)
          have hm2 : (wr.drewN (nq + 1)).ownsMap Try.prog 9 (plainElem (H := Unit) Try.prog 4) b (n + k) D' := hm
          go_wp2_with fail
          obtain ⟨w2, hrun, hm3, hg3⟩ := hm2.update strLaw Try.underlying84 (by unfold maxLen; omega) HKY.out (plainElem_bool Try.underlying4 true)
          unfold delB at hrun
          go_region_held3 (fun _ => True) (exact trivial) (fail)
          have hB3 : Below b w w2 := (belowN hB (nq + 1)).grown hg3 (by have := hB.size; have := hm2.lt; simp at this ⊢; omega) (fun j hj => by cases hj; exact Nat.le_refl _)
          go_wp2
          go_roundw
          case rel =>
            refine ⟨k + 1, _, by omega, by go_num, hm3, hide ?_, hB3⟩
            rw [HD.out, ← List.append_assoc]
            exact hS'.out.put (by obtain ⟨es, e, _⟩ := hm.keysOf; exact ⟨es, e⟩) _ _
          case measure => simp [intOf]; omega
        · have hkn : ((k : Int) == 0) = false := by rw [beq_eq_false_iff_ne]; omega
          obtain ⟨j, hj⟩ : ∃ j, j = k - 1 := ⟨_, rfl⟩
          have hkw : IntKind.i64.wrap ((k : Int) - 1) = (j : Int) := by rw [IntWalk.i64_in _ (by omega)]; omega
          have hk2 : (0 : Int) ≤ (j : Int) := by omega
          have hk3 : (j : Int) < (s.size : Int) := by omega
          have hjs : j < s.size := by omega
          have hne := run_ne hlt hjs h0 hj hr
          clear h0 hj
          go_wp2_with fail
          go_quiet (fail)
          have hm2 : (wr.drewN (nq + 1)).ownsMap Try.prog 9 (plainElem (H := Unit) Try.prog 4) b (n + k) D' := hm
          go_wp2_with fail
          obtain ⟨w2, hrun, hm3, hg3⟩ := hm2.update strLaw Try.underlying84 (by unfold maxLen; omega) HKY.out (plainElem_bool Try.underlying4 true)
          unfold delB at hrun
          go_region_held3 (fun _ => True) (exact trivial) (fail)
          have hB3 : Below b w w2 := (belowN hB (nq + 1)).grown hg3 (by have := hB.size; have := hm2.lt; simp at this ⊢; omega) (fun j hj => by cases hj; exact Nat.le_refl _)
          go_wp2
          go_roundw
          case rel =>
            refine ⟨k + 1, _, by omega, by go_num, hm3, hide ?_, hB3⟩
            rw [HD.out, ← List.append_assoc]
            exact hS'.out.put (by obtain ⟨es, e, _⟩ := hm.keysOf; exact ⟨es, e⟩) _ _
          case measure => simp [intOf]; omega
      · have hr2 : runAt s k = false := by simpa using hr
        have HD := hide (dels_no hr2)
        have h0 : k ≠ 0 := by rintro rfl; simp [runAt] at hr2
        have hkn : ((k : Int) == 0) = false := by rw [beq_eq_false_iff_ne]; omega
        obtain ⟨j, hj⟩ : ∃ j, j = k - 1 := ⟨_, rfl⟩
        have hkw : IntKind.i64.wrap ((k : Int) - 1) = (j : Int) := by rw [IntWalk.i64_in _ (by omega)]; omega
        have hk2 : (0 : Int) ≤ (j : Int) := by omega
        have hk3 : (j : Int) < (s.size : Int) := by omega
        have hjs : j < s.size := by omega
        have hne := run_eq hlt hjs h0 hj hr2
        clear h0 hr hr2 hj
        go_wp2_with fail
        go_quiet (fail)
        go_wp2
        go_roundw
        case rel =>
          refine ⟨k + 1, _, by omega, by go_num, hm.mono (by omega), hide ?_, belowN hB nq⟩
          rw [HD.out]
          exact hS'.out
        case measure => simp [intOf]; omega
    · obtain rfl : k = s.size := by omega
      go_wp2
      go_end0
      exact ⟨rfl, ⟨D', hm, hS'.out⟩, hB⟩
/-- what Deletions gives back: the results of one deletion, strictly ascending -/
def DelRes (s : ByteArray) (rs : List ByteArray) : Prop := rs.Pairwise (fun a b => a.data.toList < b.data.toList) ∧ ∀ x : ByteArray, x ∈ rs ↔ x.data.toList ∈ dels s s.size
theorem strKeys_mem {w : World} {b n : Nat} {D : DataW Unit} {S : List (List UInt8)} (h : w.ownsMap Try.prog 9 (plainElem (H := Unit) Try.prog 4) b n D) (hS : SetIs D S) : (strKeys D).Nodup ∧ ∀ x, x ∈ strKeys D ↔ x ∈ S := by
  obtain ⟨es, hD, hpw, _⟩ := h.entries strLaw
  obtain ⟨es', hD', hko⟩ := h.keysOf
  obtain rfl : es = es' := by rw [hD] at hD'; simpa using hD'
  subst hD
  have hk : ∀ p ∈ es, ∃ x, p.1 = .string x := fun p hp => by obtain ⟨v, hv⟩ := hko p hp; obtain ⟨x, _, hx, _⟩ := Maps.keyOf_str Try.underlying9 hv; exact ⟨x, hx⟩
  refine ⟨?_, fun x => ?_⟩
  · show (es.map fun p => strOf p.1).Nodup
    refine List.pairwise_map.2 (hpw.imp_of_mem fun {p q} hp' hq' hne e => hne ?_)
    obtain ⟨a, ha⟩ := hk p hp'
    obtain ⟨b, hb⟩ := hk q hq'
    rw [ha, hb] at e ⊢
    exact congrArg _ e
  · rw [← hS x, has_eq, List.any_eq_true]
    show x ∈ es.map (fun p => strOf p.1) ↔ _
    rw [List.mem_map]
    constructor
    · rintro ⟨p, hp', rfl⟩
      obtain ⟨a, ha⟩ := hk p hp'
      exact ⟨p, hp', by rw [ha]; simp [Lit.sameKey, strOf]⟩
    · rintro ⟨p, hp', hs⟩
      obtain ⟨a, ha⟩ := hk p hp'
      rw [ha] at hs
      exact ⟨p, hp', by rw [ha]; simpa [Lit.sameKey, strOf] using hs⟩
def bas (l : List (List UInt8)) : List ByteArray := l.map fun x => ⟨x.toArray⟩
theorem sorted_res {ss : List (List UInt8)} (hn : ss.Nodup) : (bas (ss.mergeSort leB)).Pairwise (fun a b => a.data.toList < b.data.toList) ∧ ∀ x : ByteArray, x ∈ bas (ss.mergeSort leB) ↔ x.data.toList ∈ ss := by
  have tr : ∀ a b c : List UInt8, leB a b = true → leB b c = true → leB a c = true := fun a b c h1 h2 => by simp only [leB, decide_eq_true_eq] at *; exact List.le_trans h1 h2
  have to : ∀ a b : List UInt8, (leB a b || leB b a) = true := fun a b => by simp only [leB, Bool.or_eq_true, decide_eq_true_eq]; exact List.le_total a b
  have h1 := List.pairwise_mergeSort tr to ss
  have h2 : (ss.mergeSort leB).Nodup := (List.mergeSort_perm ss leB).nodup_iff.2 hn
  refine ⟨?_, fun x => ?_⟩
  · unfold bas
    refine List.pairwise_map.2 ?_
    refine (h1.and h2).imp fun {a b} h => ?_
    have := h.1
    simp only [leB, decide_eq_true_eq] at this
    simp only []
    exact Decidable.byContradiction fun hn => h.2 (List.le_antisymm this hn)
  · unfold bas
    rw [List.mem_map]
    constructor
    · rintro ⟨l, hl, rfl⟩
      simpa using (List.mergeSort_perm ss leB).mem_iff.1 hl
    · intro h
      exact ⟨x.data.toList, (List.mergeSort_perm ss leB).mem_iff.2 h, by simp⟩
set_option maxRecDepth 100000 in
set_option maxHeartbeats 1000000 in
theorem del_any (s : ByteArray) (w : World) :
    Calls Try.prog 35 #[.string s] w fun e w' => ∃ vl, e = .returned (.tuple #[vl, .int .i64 (ckl [s])]) ∧ (∃ rs, Strs w' w.heap.size vl rs ∧ (ckl [s] = 0 → DelRes s rs) ∧ (ckl [s] ≠ 0 → rs = [])) ∧ Below w.heap.size w w' := by
  have hrow : ∀ k (hk : k < [s].length), (w.alloc (Obj.cells #[Value.string s] 9)).cell? ⟨w.heap.size, k, none⟩ = some (.string [s][k]) := fun k hk => Strs.cell (Strs.lit w [s] (Nat.le_refl _) (by simp) _ rfl) hk
  have HI := icheck_any [s] w.heap.size 1 _ hrow (by simp)
  have HB0 := (Below.refl w.heap.size w).alloc (Nat.le_refl _) (Obj.cells #[Value.string s] 9)
  clear hrow
  by_cases hc : ckl [s] = 0
  · have hs : s.size ≤ 256 := ckl_sizes hc s (by simp)
    have HC := hide hc
    rw [hc] at HI
    have HII := hide HI
    have HBB := hide HB0
    clear hc HI HB0
    have hmm := @run_makeMap Try.prog
    go_enter Try.func35, Try.ntmps35
    go_wp2_with fail
    refine HII.out.mono ?_
    rintro e w1 ⟨rfl, q, rfl⟩
    have hB1 := belowN HBB.out q
    have hz1 : w.heap.size ≤ ((w.alloc (Obj.cells #[Value.string s] 9)).drewN q).heap.size := hB1.size
    generalize (w.alloc (Obj.cells #[Value.string s] 9)).drewN q = W1 at hB1 hz1 ⊢
    clear HII HBB
    go_wp2_with fail
    have hM := World.ownsMap_made (H := Unit) W1 Try.prog 9 (plainElem (H := Unit) Try.prog 4)
    refine (shorter_any s (by omega) W1.heap.size 0 (.map []) [] _ hM (fun x => by simp [has]) (by omega)).mono ?_
    rintro e w2 ⟨rfl, ⟨D, hD, hS⟩, hB2⟩
    have hmem := strKeys_mem hD hS
    have hsz : Maps.size D ≤ 256 := by
      have := World.ownsMap.size_le hD
      omega
    clear hS
    go_wp2_with fail
    refine (callsIn_wide.1 (Try.maps_Keys_67 (some W1.heap.size) w2)).mono ?_
    rintro e w3 ⟨rfl, rfl⟩
    have hK := callsIn_wide.1 (Try.slices_Sorted_keys_66_67 W1.heap.size _ D _ w2 hD (by unfold maxLen; omega) (by omega))
    have hB3 : Below W1.heap.size w2 (w2.alloc (Obj.cells #[Value.map (some W1.heap.size)] 84)) := (Below.refl _ w2).alloc (by have := hB2.size; simp at this; omega) _
    have hB4 := (((Below.refl _ W1).alloc (Nat.le_refl _) (Obj.map #[] 0)).trans hB2).trans hB3
    go_wp2_with fail
    refine hK.mono ?_
    rintro e w4 ⟨v, ss, rfl, hperm, hrowS, hnil, hB5⟩
    have hB6 := hB1.trans ((hB4.trans (hB5.mono hB4.size)).mono hz1)
    clear hK hB3 hB5 hB2 hB1
    go_wp2
    go_ret2
    have hnd : ss.Nodup := hperm.nodup_iff.2 hmem.1
    obtain ⟨r1, r2⟩ := sorted_res hnd
    refine ⟨v, by rw [HC.out]; rfl, ⟨bas (ss.mergeSort leB), ?_, fun _ => ⟨r1, fun x => ?_⟩, fun h => absurd HC.out h⟩, hB6⟩
    · have hlen : (bas (ss.mergeSort leB)).length = ss.length := by unfold bas; simp
      unfold Strs
      rw [hlen]
      have hbase : w.heap.size ≤ (w2.alloc (Obj.cells #[Value.map (some W1.heap.size)] 84)).heap.size := Nat.le_trans hz1 hB4.size
      have he : (bas (ss.mergeSort leB)).map Value.string = (ss.mergeSort leB).map encStr := by unfold bas; rw [List.map_map]; rfl
      rw [he]
      unfold World.ownsRow at hrowS ⊢
      refine ⟨hrowS.1, ?_⟩
      rcases hrowS.2 with h' | ⟨g, cap, cur, h1, h2, h3⟩
      · exact .inl h'
      · exact .inr ⟨g, cap, cur, h1, by omega, h3⟩
    · rw [r2, hperm.mem_iff, hmem.2]; simp
  · have h7 : (ckl [s] != 0) = true := by simpa using hc
    have HC := hide hc
    obtain ⟨z, hz⟩ : ∃ z, z = ckl [s] := ⟨_, rfl⟩
    rw [← hz] at h7 HI ⊢
    have HZ := hide hz
    have HII := hide HI
    have HBB := hide HB0
    clear hc hz HI HB0
    go_enter Try.func35, Try.ntmps35
    go_wp2_with fail
    refine HII.out.mono ?_
    rintro e w1 ⟨rfl, q, rfl⟩
    go_wp2
    go_ret2
    exact ⟨_, rfl, ⟨[], Strs.nil_ _ _, fun h => absurd (HZ.out ▸ h) HC.out, fun _ => rfl⟩, belowN HBB.out q⟩
end Go.Proofs.Ytijeogengbphdaa
