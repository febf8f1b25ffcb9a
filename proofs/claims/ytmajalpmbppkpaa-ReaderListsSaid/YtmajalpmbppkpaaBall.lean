/- indel.ball and Ball: their contracts. -/
import Derived.Test.YtmajalpmbppkpaaBallP
import Derived.Maps.RangeWalk
import Derived.Maps.AppendAt
set_option linter.unusedVariables false
namespace Go.Proofs.Ytmajalpmbppkpaa
open Go.RowKit Go.Maps
theorem grownN {w w' : World} {row : Option Nat} (h : w.grownBy w' row) (n : Nat) : w.grownBy (w'.drewN n) row := ⟨h.os, h.tape, h.output, h.size, h.block⟩
set_option maxRecDepth 100000 in
set_option maxHeartbeats 1000000 in
theorem shorter_k (s : ByteArray) (hs : s.size ≤ 65536) (b n : Nat) (D : DataW Unit) (S : List (List UInt8)) (w : World) (hown : w.ownsMap Try.prog 9 (plainElem (H := Unit) Try.prog 4) b n D) (hS : SetIs D S) (hn : n + s.size ≤ 1000000000) :
    Calls Try.prog 72 #[.string s, .map (some b)] w fun e w' => e = .returned (.tuple #[]) ∧ (∃ D', w'.ownsMap Try.prog 9 (plainElem (H := Unit) Try.prog 4) b (n + s.size) D' ∧ SetIs D' (S ++ dels s s.size)) ∧ w.grownBy w' (some b) := by
  go_enter Try.func72, Try.ntmps72
  go_wp2
  go_loopw [7] (fun i wr => ∃ (k : Nat) (D' : DataW Unit), k ≤ s.size ∧ i = .int .i64 k ∧ wr.ownsMap Try.prog 9 (plainElem (H := Unit) Try.prog 4) b (n + k) D' ∧ Hid (SetIs D' (S ++ dels s k)) ∧ w.grownBy wr (some b)) (fun i _ => s.size - (intOf i).toNat)
  case atStart => exact ⟨0, D, Nat.zero_le _, rfl, hown, hide (by simpa [dels] using hS), World.grownBy.refl _ _⟩
  case round =>
    obtain ⟨k, D', hk, rfl, hm, hS', hB⟩ := hrel
    clear hown hS
    by_cases hlt : k < s.size
    · have hk0 : (0 : Int) ≤ (k : Int) := by omega
      have hk1 : (k : Int) < (s.size : Int) := by omega
      by_cases hr : runAt s k = true
      · have hkey := WideMaps.keyOf_string_mk (P := Try.prog) Try.underlying9 (show (delB s k).size ≤ maxLen by unfold delB maxLen; simp; omega)
        have HD := hide (dels_yes hr)
        have HKY := hide hkey
        have q1 : IntKind.i64.wrap ((k : Int) + 1) = (k : Int) + 1 := IntWalk.i64_in _ (by omega)
        have q2 : (0 : Int) ≤ (k : Int) + 1 := by omega
        have q3 : ((k : Int) + 1).toNat = k + 1 := by omega
        have q4 : (k : Int) + 1 ≤ (s.size : Int) := by omega
        have q5 : ¬ 9223372036854775807 < k + (s.size - (k + 1)) := by omega
        by_cases h0 : k = 0
        · have hkt : ((k : Int) == 0) = true := by rw [beq_iff_eq]; omega
          clear h0
          go_wp2_with fail
          go_quiet (fail)
          have hm2 : (wr.drewN (nq + 1)).ownsMap Try.prog 9 (plainElem (H := Unit) Try.prog 4) b (n + k) D' := hm
          go_wp2_with fail
          obtain ⟨w2, hrun, hm3, hg3⟩ := hm2.update strLaw Try.underlying97 (by unfold maxLen; omega) HKY.out (plainElem_bool Try.underlying4 true)
          unfold delB at hrun
          go_region_held3 (fun _ => True) (exact trivial) (fail)
          have hB3 : w.grownBy w2 (some b) := (grownN hB (nq + 1)).trans hg3
          go_wp2
          go_roundw
          case rel =>
            refine ⟨k + 1, _, by omega, by go_num, hm3, hide ?_, hB3⟩
            rw [HD.out, ← List.append_assoc]
            exact hS'.out.put (by obtain ⟨es, e, _⟩ := hm.keysOf; exact ⟨es, e⟩) _ _
          case measure => simp [intOf]; omega
        · have hkn : ((k : Int) == 0) = false := by rw [beq_eq_false_iff_ne]; omega
          obtain ⟨j, hj⟩ : ∃ j, j = k - 1 := ⟨_, rfl⟩
          have hkw : IntKind.i64.wrap ((k : Int) - 1) = (j : Int) := by rw [IntWalk.i64_in _ (by omega)]; omega
          have hk2 : (0 : Int) ≤ (j : Int) := by omega
          have hk3 : (j : Int) < (s.size : Int) := by omega
          have hjs : j < s.size := by omega
          have hne := run_ne hlt hjs h0 hj hr
          clear h0 hj
          go_wp2_with fail
          go_quiet (fail)
          have hm2 : (wr.drewN (nq + 1)).ownsMap Try.prog 9 (plainElem (H := Unit) Try.prog 4) b (n + k) D' := hm
          go_wp2_with fail
          obtain ⟨w2, hrun, hm3, hg3⟩ := hm2.update strLaw Try.underlying97 (by unfold maxLen; omega) HKY.out (plainElem_bool Try.underlying4 true)
          unfold delB at hrun
          go_region_held3 (fun _ => True) (exact trivial) (fail)
          have hB3 : w.grownBy w2 (some b) := (grownN hB (nq + 1)).trans hg3
          go_wp2
          go_roundw
          case rel =>
            refine ⟨k + 1, _, by omega, by go_num, hm3, hide ?_, hB3⟩
            rw [HD.out, ← List.append_assoc]
            exact hS'.out.put (by obtain ⟨es, e, _⟩ := hm.keysOf; exact ⟨es, e⟩) _ _
          case measure => simp [intOf]; omega
      · have hr2 : runAt s k = false := by simpa using hr
        have HD := hide (dels_no hr2)
        have h0 : k ≠ 0 := by rintro rfl; simp [runAt] at hr2
        have hkn : ((k : Int) == 0) = false := by rw [beq_eq_false_iff_ne]; omega
        obtain ⟨j, hj⟩ : ∃ j, j = k - 1 := ⟨_, rfl⟩
        have hkw : IntKind.i64.wrap ((k : Int) - 1) = (j : Int) := by rw [IntWalk.i64_in _ (by omega)]; omega
        have hk2 : (0 : Int) ≤ (j : Int) := by omega
        have hk3 : (j : Int) < (s.size : Int) := by omega
        have hjs : j < s.size := by omega
        have hne := run_eq hlt hjs h0 hj hr2
        clear h0 hr hr2 hj
        go_wp2_with fail
        go_quiet (fail)
        go_wp2
        go_roundw
        case rel =>
          refine ⟨k + 1, _, by omega, by go_num, hm.mono (by omega), hide ?_, grownN hB nq⟩
          rw [HD.out]
          exact hS'.out
        case measure => simp [intOf]; omega
    · obtain rfl : k = s.size := by omega
      go_wp2
      go_end0
      exact ⟨rfl, ⟨D', hm, hS'.out⟩, hB⟩
/-- the datum is the set of those that j deletions lead to -/
def SetJ (D : DataW Unit) (s : List UInt8) (j : Nat) : Prop := ∀ x, has D (.string x) = true ↔ Pj s j x
theorem tight {w : World} {b n : Nat} {D : DataW Unit} (h : w.ownsMap Try.prog 9 (plainElem (H := Unit) Try.prog 4) b n D) : w.ownsMap Try.prog 9 (plainElem (H := Unit) Try.prog 4) b (Maps.size D) D := by
  obtain ⟨es, clock, hb, F, hs, rfl⟩ := h
  refine ⟨es, clock, hb, F, ?_, rfl⟩
  rw [Maps.size_eq, length_sorted]
  simp
theorem keys_has {w : World} {b n : Nat} {D : DataW Unit} (h : w.ownsMap Try.prog 9 (plainElem (H := Unit) Try.prog 4) b n D) : SetIs D (strKeys D) := by
  intro x
  obtain ⟨es, hD, hpw, _⟩ := h.entries strLaw
  obtain ⟨es', hD', hko⟩ := h.keysOf
  obtain rfl : es = es' := by rw [hD] at hD'; simpa using hD'
  subst hD
  have hk : ∀ p ∈ es, ∃ x, p.1 = .string x := fun p hp => by obtain ⟨v, hv⟩ := hko p hp; obtain ⟨x, _, hx, _⟩ := Maps.keyOf_str Try.underlying9 hv; exact ⟨x, hx⟩
  rw [has_eq, List.any_eq_true]
  show _ ↔ x ∈ es.map (fun p => strOf p.1)
  rw [List.mem_map]
  constructor
  · rintro ⟨p, hp', hs⟩
    obtain ⟨a, ha⟩ := hk p hp'
    rw [ha] at hs
    exact ⟨p, hp', by rw [ha]; simpa [Lit.sameKey, strOf] using hs⟩
  · rintro ⟨p, hp', rfl⟩
    obtain ⟨a, ha⟩ := hk p hp'
    exact ⟨p, hp', by rw [ha]; simp [Lit.sameKey, strOf]⟩
theorem size_of_set {w : World} {b n : Nat} {D : DataW Unit} {m : List (List UInt8)} (h : w.ownsMap Try.prog 9 (plainElem (H := Unit) Try.prog 4) b n D) (hs : ∀ x, has D (.string x) = true → x ∈ m) : Maps.size D ≤ m.length := by
  have hS := keys_has h
  have hm := strKeys_mem h hS
  have h1 := len_subset hm.1 (fun x hx => hs x ((hS x).2 hx))
  obtain ⟨es, rfl, _⟩ := h.entries strLaw
  have h2 : (strKeys (.map es : DataW Unit)).length = es.length := by
    show (es.map fun p => strOf p.1).length = es.length
    rw [List.length_map]
  rw [Maps.size_eq]
  omega
theorem setj_round {D D' : DataW Unit} {left : Lit → Bool} {x : ByteArray} (hhas : has D (.string x.data.toList) = true)
    (hA : ∀ z, has D' (.string z) = true ↔ ∃ y, has D (.string y) = true ∧ left (.string y) = false ∧ ∃ i, i < y.length ∧ z = DL y i) (hK : SetIs D' (strKeys D')) :
    ∀ D'' : DataW Unit, SetIs D'' (strKeys D' ++ dels x x.size) → ∀ z, has D'' (.string z) = true ↔ ∃ y, has D (.string y) = true ∧ (left (.string y) && !(Lit.string y).sameKey (.string x.data.toList)) = false ∧ ∃ i, i < y.length ∧ z = DL y i := by
  intro D'' hS z
  rw [hS z, List.mem_append, ← hK z, hA z, dels_mem]
  have hsk : ∀ y, (left (.string y) && !(Lit.string y).sameKey (.string x.data.toList)) = false ↔ (left (.string y) = false ∨ y = x.data.toList) := by
    intro y
    simp [Lit.sameKey]
    by_cases h : left (.string y) = true <;> simp_all
  constructor
  · rintro (⟨y, h1, h2, h3⟩ | ⟨i, hi, rfl⟩)
    · exact ⟨y, h1, (hsk y).2 (.inl h2), h3⟩
    · exact ⟨_, hhas, (hsk _).2 (.inr rfl), i, hi, rfl⟩
  · rintro ⟨y, h1, h2, i, hi, rfl⟩
    rcases (hsk y).1 h2 with h2 | rfl
    · exact .inl ⟨y, h1, h2, i, hi, rfl⟩
    · exact .inr ⟨i, hi, rfl⟩
theorem wpList_next_str {P : Program} (w : World) {ops : Array Oper} {rest : List Oper} {o : Oper} {a : Act} {Q : Exit → Act → World → Prop} (hg : o.guard = none) (it : Operand) (hop : o.op = Op.next it false) (k : TypeId) (K : Keyed P k) (hk : P.underlying k = some .string)
    (R : Value → Option (DataW Unit × List MemPlace)) (b r n : Nat) (D : DataW Unit) (left : Lit → Bool) (cnt : Nat) (hit : a.eval it = .pointer (some ⟨r, 0, none⟩)) (h : w.ranges P k R b r n D left cnt)
    (hDone : cnt = 0 → (∀ kl, left kl = false) → wpList P ops Q rest (a.put o.dst (.tuple #[.bool false])) w)
    (hMore : ∀ (x : ByteArray) (v : Value) (w' : World) (cnt' : Nat), has D (.string x.data.toList) = true → left (.string x.data.toList) = true → w'.ranges P k R b r n D (fun z => left z && !z.sameKey (.string x.data.toList)) cnt' → cnt' < cnt →
      w.grownBy w' (some r) → w'.heap.size = w.heap.size → (Instr.entry (.pointer (some ⟨r, 0, none⟩))).run P w' = .ok (.tuple #[.string x, v]) w' → wpList P ops Q rest (a.put o.dst (.tuple #[.bool true, .string x, v])) w') :
    wpList P ops Q (o :: rest) a w :=
  wpList_next_ranges (α := ByteArray) (β := Value) w hg it hop k K R Value.string (fun v => v) (fun key kl hkey => by obtain ⟨x, rfl, _⟩ := Maps.keyOf_str hk hkey; exact ⟨⟨x.toArray⟩, rfl⟩) (fun v y _ => ⟨v, rfl⟩)
    b r n D left cnt hit h hDone (fun x v kl y w' cnt' hkey hlk hv hat hrg hlt hgr hsz hen => by
      obtain ⟨x', ex, rfl, _⟩ := Maps.keyOf_str hk hkey
      have e : x = ⟨x'.toArray⟩ := by simpa [encStr] using ex
      subst e
      exact hMore _ v w' cnt' (has_true_of_atKey hat) hlk hrg hlt hgr hsz hen)
set_option maxRecDepth 100000 in
set_option maxHeartbeats 4000000 in
theorem ballf_any (s : ByteArray) (hs : s.size ≤ 12) (n : Nat) (hn : n ≤ s.size) (w : World) :
    Calls Try.prog 76 #[.string s, .int .i64 (n : Int)] w fun e w' => ∃ b D, e = .returned (.tuple #[.map (some b), .bool true]) ∧ w'.ownsMap Try.prog 9 (plainElem (H := Unit) Try.prog 4) b (Maps.size D) D ∧ Maps.size D ≤ 4096 ∧ SetJ D s.data.toList n ∧ w.heap.size ≤ b ∧ Below w.heap.size w w' := by
  have hmm := @run_makeMap Try.prog
  obtain ⟨B, hB⟩ : ∃ B, w.heap.size = B := ⟨_, rfl⟩
  have hM := World.ownsMap_made (H := Unit) w Try.prog 9 (plainElem (H := Unit) Try.prog 4)
  rw [hB] at hM
  have hkey := WideMaps.keyOf_string_mk (P := Try.prog) Try.underlying9 (show s.size ≤ maxLen by unfold maxLen; omega)
  obtain ⟨w1, hrun, hM1, hg1⟩ := hM.update strLaw Try.underlying97 (by unfold maxLen; omega) hkey (plainElem_bool Try.underlying4 true)
  have hset : SetJ ((DataW.map [] : DataW Unit).put (.string s.data.toList) (.lit (.bool true))) s.data.toList 0 := by
    intro x
    have h0 : SetIs (DataW.map [] : DataW Unit) [] := fun x => by simp [has]
    rw [h0.put ⟨[], rfl⟩ s.data.toList (.lit (.bool true)) x]
    unfold Pj
    simp
    constructor
    · rintro rfl; exact ⟨List.Sublist.refl _, rfl⟩
    · rintro ⟨h1, h2⟩; exact h1.eq_of_length h2
  have hB1 : Below B w w1 := ((Below.refl B w).alloc (by omega) _).grown hg1 (by simp; omega) (fun j hj => by cases hj; omega)
  have hlt1 := hM1.lt
  have HK := hide hkey
  have HS := hide hset
  clear hM hg1 hkey hset
  go_enter Try.func76, Try.ntmps76
  go_wp2_with fail
  go_loopw [6, 13] (fun ov iv wr => ∃ (j b : Nat) (D : DataW Unit), ov = .map (some b) ∧ iv = .int .i64 j ∧ j ≤ n ∧ wr.ownsMap Try.prog 9 (plainElem (H := Unit) Try.prog 4) b (Maps.size D) D ∧ Hid (SetJ D s.data.toList j) ∧ B ≤ b ∧ Below B w wr) (fun _ iv _ => n - (intOf iv).toNat)
  case atStart => exact ⟨0, B, _, rfl, rfl, Nat.zero_le _, tight hM1, HS, Nat.le_refl _, hB1⟩
  case round =>
    obtain ⟨j, b, D, rfl, rfl, hj, hm, hSJ, hbB, hBw⟩ := hrel
    clear hM1 hB1 hlt1 HS hrun
    by_cases hlt : j < n
    · have hbl := hm.lt
      obtain ⟨C, hC⟩ : ∃ C, wr.heap.size = C := ⟨_, rfl⟩
      have hBs := hBw.size
      have hnew := World.ownsMap_made (H := Unit) wr Try.prog 9 (plainElem (H := Unit) Try.prog 4)
      rw [hC] at hnew
      have e1 : (wr.alloc (.map #[] 0)).heap.size = C + 1 := by simp [hC]
      go_wp2_with (at_range; refine wpList_range_own _ rfl _ 97 rfl 9 4 strLaw Try.underlying97 _ b (Maps.size D) D rfl (hm.alloc _) ?_; intro w0 hrg0 hg0 hs0)
      rw [e1] at hrg0 hs0 ⊢
      go_frame
      have hT0 : Below B w w0 := (hBw.alloc (by omega) _).grown hg0 (by simp; omega) (fun j hj => by cases hj)
      have hnew0 := hnew.kept hg0 (by simp)
      clear hnew hg0
      go_loopw [8] (fun _ wv => ∃ (left : Lit → Bool) (cnt : Nat) (D' : DataW Unit), wv.ranges Try.prog 9 (plainElem (H := Unit) Try.prog 4) b (C + 1) (Maps.size D) D left cnt ∧ wv.ownsMap Try.prog 9 (plainElem (H := Unit) Try.prog 4) C (Maps.size D') D' ∧
        Hid (∀ x, has D' (.string x) = true ↔ ∃ y, has D (.string y) = true ∧ left (.string y) = false ∧ ∃ i, i < y.length ∧ x = DL y i) ∧ Below B w wv ∧ C + 2 ≤ wv.heap.size)
        (fun _ wv => wv.rangeLeft b (C + 1))
      case atStart =>
        refine ⟨_, _, _, hrg0, tight hnew0, hide (fun x => ?_), hT0, by omega⟩
        constructor
        · intro h; simp [has] at h
        · rintro ⟨y, h1, h2, _⟩; rw [h1] at h2; cases h2
      case round =>
        obtain ⟨left, cnt, D', hrg, hout, hA, hBv, hszv⟩ := hrel
        clear hrg0 hnew0 hT0 hs0
        go_wp2_with (at_next; refine wpList_next_str _ rfl _ rfl 9 strLaw Try.underlying9 (plainElem (H := Unit) Try.prog 4) b (C + 1) (Maps.size D) D left cnt rfl hrg ?_ ?_)
        · intro hc0 hl0
          have hS2 := hide (show SetJ D' s.data.toList (j + 1) from fun x => by
            rw [hA.out x, ← Pj_step]
            constructor
            · rintro ⟨y, h1, _, i, hi, rfl⟩
              exact ⟨y, (hSJ.out y).1 h1, i, hi, rfl⟩
            · rintro ⟨y, h1, i, hi, rfl⟩
              exact ⟨y, (hSJ.out y).2 h1, hl0 _, i, hi, rfl⟩)
          go_wp2
          go_roundw
          case rel => exact ⟨j + 1, C, D', rfl, by go_num, hlt, hout, hS2, by omega, hBv⟩
          case measure => simp [intOf]; omega
        · intro x xv w1 cnt1 hhas hlk hrg1 hltc hg1 hs1 hen
          have hout1 := hout.kept hg1 (by simp)
          have hPx := (hSJ.out _).1 hhas
          have hx12 : x.size ≤ 12 := by
            have := hPx.2
            simp at this
            omega
          have hsz1 : Maps.size D' ≤ 4096 := by
            have h1 := size_of_set (m := subs s.data.toList) hout (fun y hy => by
              obtain ⟨z, h1, _, i, hi, rfl⟩ := (hA.out y).1 hy
              exact mem_subs ((DL_sub z i).trans ((hSJ.out z).1 h1).1))
            rw [subs_len] at h1
            have h2 : 2 ^ s.data.toList.length ≤ 2 ^ 12 := Nat.pow_le_pow_right (by omega) (by simpa using hs)
            omega
          have hrd := setj_round hhas hA.out (keys_has hout1)
          have HSH := hide (shorter_k x (by omega) C (Maps.size D') D' (strKeys D') w1 hout1 (keys_has hout1) (by omega))
          have hle0 := hrg.left_eq
          clear hout hA hrg
          go_wp2_with fail
          refine HSH.out.mono ?_
          rintro e w2 ⟨rfl, ⟨D'', hm2, hS2⟩, hg2⟩
          have hC2 := hm2.lt
          have hrg2 := hrg1.kept hg2 (by simp; omega) (by simp)
          have hm3 := tight hm2
          have hA2 := hide (hrd D'' hS2)
          have hBw2 := (hBv.grown hg1 (by omega) (fun j hj => by cases hj; omega)).grown hg2 (by omega) (fun j hj => by cases hj; omega)
          have hsz2 : Maps.size D'' ≤ 4096 := by
            have h1 := size_of_set (m := subs s.data.toList) hm3 (fun y hy => by
              obtain ⟨z, h1, _, i, hi, rfl⟩ := (hA2.out y).1 hy
              exact mem_subs ((DL_sub z i).trans ((hSJ.out z).1 h1).1))
            rw [subs_len] at h1
            have h2 : 2 ^ s.data.toList.length ≤ 2 ^ 12 := Nat.pow_le_pow_right (by omega) (by simpa using hs)
            omega
          have hlen := fun ty => World.ownsMap.len hm3 Try.underlying97 ty
          have hcmp : ¬ (4096 : Int) < (Maps.size D'' : Int) := by omega
          clear HSH hrd hout1 hm2 hS2 hhas hlk hen
          go_wp2
          go_roundw
          case rel => exact ⟨_, _, D'', hrg2, hm3, hA2, hBw2, by have := hg2.size; omega⟩
          case measure => rw [hrg2.left_eq, hle0]; exact hltc
    · obtain rfl : j = n := by omega
      go_wp2
      go_ret2
      refine ⟨b, D, rfl, hm, ?_, hSJ.out, by omega, by rw [hB]; exact hBw⟩
      have h1 := size_of_set (m := subs s.data.toList) hm (fun y hy => mem_subs ((hSJ.out y).1 hy).1)
      rw [subs_len] at h1
      have h2 : 2 ^ s.data.toList.length ≤ 2 ^ 12 := Nat.pow_le_pow_right (by omega) (by simpa using hs)
      omega
end Go.Proofs.Ytmajalpmbppkpaa
