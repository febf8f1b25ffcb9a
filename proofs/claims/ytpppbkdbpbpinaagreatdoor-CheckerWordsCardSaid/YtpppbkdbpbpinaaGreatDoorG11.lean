import Derived.Test.YtpppbkdbpbpinaaGreatDoorG10
import Derived.Test.YtpppbkdbpbpinaaGreatDoorG8
import Derived.Test.YtpppbkdbpbpinaaGreatDoorG2
set_option linter.unusedSimpArgs false
set_option linter.unusedVariables false
/- groovelaw59.machine; slices.ContainsFunc with the closures of machine and CheckerWords (printed by wip/mk_mcn.py). -/
set_option linter.unusedVariables false
namespace Go.Proofs.YtpppbkdbpbpinaaGreatDoor
open Go.RowKit
def badM (n : Nat) : Bool := (decide (4 < n) && decide (n ≤ 16)) || decide (20 < n)
def lngM (x : List Int) : Bool := badM x.length
def badL (s : ByteArray) : Bool := decide (12 < s.size)
def mchN (n : Nat) : Bool := decide (n ≤ 5) || (decide (16 < n) && decide (n < 20))
def mch (rows : List (List Int)) : Bool := mchN rows.length && !rows.any lngM
set_option maxRecDepth 100000 in
set_option maxHeartbeats 1000000 in
theorem mchf_any (D : Option Addr) (n c : Nat) (w : World) :
    Calls Tryz.prog 14 #[.slice D n c] w fun e w' => e = .returned (.bool (badM n)) ∧ w = w' := by
  have e1 : decide ((4 : Int) < (n : Int)) = decide (4 < n) := by simp only [decide_eq_decide]; omega
  have e2 : decide ((n : Int) ≤ 16) = decide (n ≤ 16) := by simp only [decide_eq_decide]; omega
  have e3 : decide ((20 : Int) < (n : Int)) = decide (20 < n) := by simp only [decide_eq_decide]; omega
  have HV := hide (show badM n = ((decide (4 < n) && decide (n ≤ 16)) || decide (20 < n)) from rfl)
  cases h1 : decide (4 < n) <;> cases h2 : decide (n ≤ 16) <;> cases h3 : decide (20 < n) <;>
    (rw [h1] at e1 HV
     rw [h2] at e2 HV
     rw [h3] at e3 HV
     clear h1 h2 h3
     go_enter Tryz.func14, Tryz.ntmps14
     go_wp2
     go_ret
     exact ⟨by rw [HV.out]; rfl, rfl⟩)
set_option maxRecDepth 100000 in
theorem lCWf_any (s : ByteArray) (w : World) :
    Calls Tryz.prog 6 #[.string s] w fun e w' => e = .returned (.bool (badL s)) ∧ w = w' := by
  have e1 : decide ((12 : Int) < (s.size : Int)) = badL s := by unfold badL; simp only [decide_eq_decide]; omega
  cases h : badL s with
  | true =>
    rw [h] at e1
    go_enter Tryz.func6, Tryz.ntmps6
    go_wp2
    go_ret
    exact ⟨rfl, rfl⟩
  | false =>
    rw [h] at e1
    go_enter Tryz.func6, Tryz.ntmps6
    go_wp2
    go_ret
    exact ⟨rfl, rfl⟩
set_option maxRecDepth 100000 in
set_option maxHeartbeats 1000000 in
theorem ifMch_any (ds : List (List Int)) (D : Option Addr) (cD : Nat) (w : World) (hr : RowD w D ds) (hb : ds.length ≤ 9223372036854775807) :
    Calls Tryz.prog 39 #[.slice D ds.length cD, .func (.func 14) #[] #[]] w fun e w' => (∃ z : Int, e = .returned (.int .i64 z) ∧ decide (0 ≤ z) = ds.any lngM) ∧ w = w' := by
  have HR := hide hr
  clear hr
  go_enter Tryz.func39, Tryz.ntmps39
  go_wp2
  go_loopw [8] (fun iv wr => ∃ i : Nat, iv = .int .i64 i ∧ i ≤ ds.length ∧ Hid (∀ j (hj : j < ds.length), j < i → lngM ds[j] = false) ∧ wr = w) (fun iv _ => ds.length - (intOf iv).toNat)
  case atStart => exact ⟨0, rfl, Nat.zero_le _, hide fun j _ h => absurd h (by omega), rfl⟩
  case round =>
    obtain ⟨i, rfl, hi, hJ, rfl⟩ := hrel
    by_cases hlt : i < ds.length
    · obtain ⟨b, o, rfl, hbl, hcell⟩ := HR.out (by omega)
      obtain ⟨E, cE, hc, _⟩ := hcell i hlt
      obtain ⟨n, hn⟩ : ∃ n, ds[i].length = n := ⟨_, rfl⟩
      have HZ := hide (show lngM ds[i] = badM n by unfold lngM; rw [hn])
      rw [hn] at hc
      have HC := hide hcell
      have hi0 : (0 : Int) ≤ (i : Int) := by omega
      have hi1 : (i : Int) < (ds.length : Int) := by omega
      have HF := hide (fun W => mchf_any E n cE W)
      clear hn hcell
      cases hbad : badM n with
      | true =>
        rw [hbad] at HF HZ
        have HA := hide (show ds.any lngM = true by
          rw [List.any_eq_true]
          exact ⟨ds[i], List.getElem_mem _, HZ.out⟩)
        clear hbad
        go_wp2_with (go_at_call 14; refine (HF.out _).mono ?_; rintro e w' ⟨rfl, rfl⟩)
        go_ret
        exact ⟨⟨_, rfl, by rw [HA.out]; exact decide_eq_true hi0⟩, rfl⟩
      | false =>
        rw [hbad] at HF HZ
        have HJ2 := hide (show ∀ j (hj : j < ds.length), j < i + 1 → lngM ds[j] = false from fun j hj hji => by
          rcases Nat.lt_or_ge j i with h | h
          · exact hJ.out j hj h
          · obtain rfl : j = i := by omega
            exact HZ.out)
        clear hbad hJ
        go_wp2_with (go_at_call 14; refine (HF.out _).mono ?_; rintro e w' ⟨rfl, rfl⟩)
        go_roundw
        case rel => exact ⟨i + 1, by go_num, hlt, HJ2, by first | exact trivial | rfl⟩
        case measure => simp [intOf]; omega
    · obtain rfl : i = ds.length := by omega
      have HA := hide (show ds.any lngM = false by
        rw [List.any_eq_false]
        intro x hx
        obtain ⟨j, hj, rfl⟩ := List.getElem_of_mem hx
        rw [hJ.out j hj hj]; decide)
      go_wp2
      go_ret
      exact ⟨⟨-1, rfl, by rw [HA.out]; decide⟩, rfl⟩
set_option maxRecDepth 100000 in
theorem cfMch_any (ds : List (List Int)) (D : Option Addr) (cD : Nat) (w : World) (hr : RowD w D ds) (hb : ds.length ≤ 9223372036854775807) :
    Calls Tryz.prog 13 #[.slice D ds.length cD, .func (.func 14) #[] #[]] w fun e w' => e = .returned (.bool (ds.any lngM)) ∧ w = w' := by
  have HI := hide (ifMch_any ds D cD w hr hb)
  clear hr
  go_enter Tryz.func13, Tryz.ntmps13
  go_wp2_with fail
  refine HI.out.mono ?_
  rintro e w1 ⟨⟨z, rfl, hz⟩, rfl⟩
  have HZ := hide hz
  clear hz
  go_wp2
  go_ret
  exact ⟨by rw [← HZ.out]; rfl, rfl⟩
set_option maxRecDepth 100000 in
set_option maxHeartbeats 1000000 in
theorem ifLen_any (ds : List ByteArray) (D : Option Addr) (cD : Nat) (w : World) (hr : RowT w D ds) (hb : ds.length ≤ 9223372036854775807) :
    Calls Tryz.prog 15 #[.slice D ds.length cD, .func (.func 6) #[] #[]] w fun e w' => (∃ z : Int, e = .returned (.int .i64 z) ∧ decide (0 ≤ z) = ds.any badL) ∧ w = w' := by
  have HR := hide hr
  clear hr
  go_enter Tryz.func15, Tryz.ntmps15
  go_wp2
  go_loopw [8] (fun iv wr => ∃ i : Nat, iv = .int .i64 i ∧ i ≤ ds.length ∧ Hid (∀ j (hj : j < ds.length), j < i → badL ds[j] = false) ∧ wr = w) (fun iv _ => ds.length - (intOf iv).toNat)
  case atStart => exact ⟨0, rfl, Nat.zero_le _, hide fun j _ h => absurd h (by omega), rfl⟩
  case round =>
    obtain ⟨i, rfl, hi, hJ, rfl⟩ := hrel
    by_cases hlt : i < ds.length
    · obtain ⟨b, o, rfl, hbl, hcell⟩ := HR.out (by omega)
      have hc := hcell i hlt
      obtain ⟨s, hn⟩ : ∃ s, ds[i] = s := ⟨_, rfl⟩
      have HZ := hide (show badL ds[i] = badL s by rw [hn])
      rw [hn] at hc
      have HC := hide hcell
      have hi0 : (0 : Int) ≤ (i : Int) := by omega
      have hi1 : (i : Int) < (ds.length : Int) := by omega
      have HF := hide (fun W => lCWf_any s W)
      clear hn hcell
      cases hbad : badL s with
      | true =>
        rw [hbad] at HF HZ
        have HA := hide (show ds.any badL = true by
          rw [List.any_eq_true]
          exact ⟨ds[i], List.getElem_mem _, HZ.out⟩)
        clear hbad
        go_wp2_with (go_at_call 6; refine (HF.out _).mono ?_; rintro e w' ⟨rfl, rfl⟩)
        go_ret
        exact ⟨⟨_, rfl, by rw [HA.out]; exact decide_eq_true hi0⟩, rfl⟩
      | false =>
        rw [hbad] at HF HZ
        have HJ2 := hide (show ∀ j (hj : j < ds.length), j < i + 1 → badL ds[j] = false from fun j hj hji => by
          rcases Nat.lt_or_ge j i with h | h
          · exact hJ.out j hj h
          · obtain rfl : j = i := by omega
            exact HZ.out)
        clear hbad hJ
        go_wp2_with (go_at_call 6; refine (HF.out _).mono ?_; rintro e w' ⟨rfl, rfl⟩)
        go_roundw
        case rel => exact ⟨i + 1, by go_num, hlt, HJ2, by first | exact trivial | rfl⟩
        case measure => simp [intOf]; omega
    · obtain rfl : i = ds.length := by omega
      have HA := hide (show ds.any badL = false by
        rw [List.any_eq_false]
        intro x hx
        obtain ⟨j, hj, rfl⟩ := List.getElem_of_mem hx
        rw [hJ.out j hj hj]; decide)
      go_wp2
      go_ret
      exact ⟨⟨-1, rfl, by rw [HA.out]; decide⟩, rfl⟩
set_option maxRecDepth 100000 in
theorem cfLen_any (ds : List ByteArray) (D : Option Addr) (cD : Nat) (w : World) (hr : RowT w D ds) (hb : ds.length ≤ 9223372036854775807) :
    Calls Tryz.prog 5 #[.slice D ds.length cD, .func (.func 6) #[] #[]] w fun e w' => e = .returned (.bool (ds.any badL)) ∧ w = w' := by
  have HI := hide (ifLen_any ds D cD w hr hb)
  clear hr
  go_enter Tryz.func5, Tryz.ntmps5
  go_wp2_with fail
  refine HI.out.mono ?_
  rintro e w1 ⟨⟨z, rfl, hz⟩, rfl⟩
  have HZ := hide hz
  clear hz
  go_wp2
  go_ret
  exact ⟨by rw [← HZ.out]; rfl, rfl⟩

set_option maxRecDepth 100000 in
set_option maxHeartbeats 2000000 in
theorem machine_any (L : Int) (rows : List (List Int)) (A : Option Addr) (cc : Nat) (w : World) (hR : RowD w A rows) (hb : rows.length ≤ 9223372036854775807) :
    Calls Tryz.prog 4 #[.agg #[.int .i64 L, .slice A rows.length cc]] w fun e w' => e = .returned (.bool (mch rows)) ∧ Below w.heap.size w w' := by
  have hB0 : Below w.heap.size w (w.alloc (Obj.cells #[.int .i64 L, .slice A rows.length cc] 24)) := (Below.refl _ w).alloc (Nat.le_refl _) _
  have HC := hide (cfMch_any rows A cc _ (hR.below hB0) hb)
  have HV := hide (show mch rows = (mchN rows.length && !rows.any lngM) from rfl)
  obtain ⟨q, hq⟩ : ∃ q, rows.any lngM = q := ⟨_, rfl⟩
  rw [hq] at HC HV
  obtain ⟨n, hn⟩ : ∃ n, rows.length = n := ⟨_, rfl⟩
  rw [hn] at HC HV hb hB0 ⊢
  have HB := hide hB0
  have e1 : decide ((n : Int) ≤ 5) = decide (n ≤ 5) := by simp only [decide_eq_decide]; omega
  have e2 : decide ((16 : Int) < (n : Int)) = decide (16 < n) := by simp only [decide_eq_decide]; omega
  have e3 : decide ((n : Int) < 20) = decide (n < 20) := by simp only [decide_eq_decide]; omega
  have HN := hide (show mchN n = (decide (n ≤ 5) || (decide (16 < n) && decide (n < 20))) from rfl)
  clear hR hq hn hB0
  cases h1 : decide (n ≤ 5) <;> cases h2 : decide (16 < n) <;> cases h3 : decide (n < 20) <;> cases q <;>
    (rw [h1] at e1 HN
     rw [h2] at e2 HN
     rw [h3] at e3 HN
     rw [HN.out] at HV
     clear h1 h2 h3
     go_enter Tryz.func4, Tryz.ntmps4
     go_wp2_with (go_at_call 13; (with_reducible refine HC.out.mono ?_); rintro e w' ⟨rfl, rfl⟩)
     go_ret
     exact ⟨by rw [HV.out]; rfl, HB.out⟩)
/-- an automaton that is examined has few states and letters, if it is one -/
theorem mch_fit {L : Int} {rows : List (List Int)} (h : mch rows = true) : Fit L rows := by
  intro hc
  unfold mch mchN at h
  simp only [Bool.and_eq_true, Bool.or_eq_true, Bool.not_eq_true', decide_eq_true_iff] at h
  obtain ⟨h1, h2⟩ := h
  unfold chkA at hc
  by_cases c1 : L < 1 ∨ 8 < L
  · rw [if_pos c1] at hc; cases hc
  rw [if_neg c1] at hc
  by_cases c2 : rows.length = 0
  · rw [if_pos c2] at hc; cases hc
  rw [if_neg c2] at hc
  by_cases c3 : 16 < rows.length
  · rw [if_pos c3] at hc; cases hc
  rw [if_neg c3] at hc
  have hm : rows[0] ∈ rows := List.getElem_mem (by omega)
  have h3 := chkRows_all hc _ hm
  have h4 : lngM rows[0] = false := by
    have := List.any_eq_false.1 h2 _ hm
    simpa using this
  unfold chkRow at h3
  by_cases c4 : rows[0].length ≠ L.toNat
  · rw [if_pos c4] at h3; cases h3
  · unfold lngM badM at h4
    simp only [Bool.or_eq_false_iff, Bool.and_eq_false_iff, decide_eq_false_iff_not] at h4
    omega
end Go.Proofs.YtpppbkdbpbpinaaGreatDoor

/- Rows of ints that the call itself makes. -/
set_option linter.unusedVariables false
namespace Go.Proofs.YtpppbkdbpbpinaaGreatDoor
open Go.RowKit
theorem infoIntA : (Tryz.prog.info? 3).map (fun i => (i.zero, i.size, i.bytes)) = some (some (.int .i64 0), 1, 8) := by kernel_rfl
/-- the slice value v holds the strings xs in a row of the call's own (blocks from B on) -/
def Ints (w : World) (B : Nat) (v : Value) (xs : List Int) : Prop := w.ownsRow B 3 1 v xs.length (xs.map (Value.int .i64))
section
variable {w w' : World} {B : Nat} {v : Value} {xs : List Int}
theorem Ints.nil_ (w : World) (B : Nat) : Ints w B (.slice none 0 0) [] := World.ownsRow_nil _ _ _ _
theorem Ints.alloc (h : Ints w B v xs) (o : Obj) : Ints (w.alloc o) B v xs := World.ownsRow.alloc h o
theorem Ints.drew (h : Ints w B v xs) : Ints w.drew B v xs := h
theorem Ints.drewN (h : Ints w B v xs) (n : Nat) : Ints (w.drewN n) B v xs := h
theorem Ints.lit (w : World) (xs : List Int) (hB : B ≤ w.heap.size) (hm : xs.length ≤ 4294967296) (cs : Array Value) (hc : cs = (xs.map (Value.int .i64)).toArray) :
    Ints (w.alloc (.cells cs 3)) B (.slice (some ⟨w.heap.size, 0, none⟩) xs.length xs.length) xs := by
  subst hc
  have := World.ownsRow_lit (base := B) (e := 3) (size := 1) w (xs.map (Value.int .i64)).toArray xs.length hB (by unfold maxLen; omega) (by simp)
  simpa [Ints] using this
theorem Ints.empty_ {w : World} {B g : Nat} (hg : w.heap.size = g) (hB : B ≤ g) : Ints (w.alloc (.cells #[] 3)) B (.slice (some ⟨g, 0, none⟩) 0 0) [] := by
  subst hg
  exact World.ownsRow_made (base := B) (e := 3) (size := 1) w #[] 0 hB (by decide) rfl
theorem Ints.one_ {w : World} {B g : Nat} (hg : w.heap.size = g) (hB : B ≤ g) (s : Int) : Ints (w.alloc (.cells #[.int .i64 s] 3)) B (.slice (some ⟨g, 0, none⟩) 1 1) [s] := by
  subst hg
  exact Ints.lit w [s] hB (by simp) _ rfl
theorem Ints.form (h : Ints w B v xs) (hne : 0 < xs.length) : ∃ g cap, v = .slice (some ⟨g, 0, none⟩) xs.length cap ∧ B ≤ g ∧ g < w.heap.size := by
  rcases h.2 with ⟨_, hn⟩ | ⟨g, cap, cur, hv, hb, hh, _⟩
  · omega
  · refine ⟨g, cap, hv, hb, ?_⟩
    rcases Nat.lt_or_ge g w.heap.size with hlt | hge
    · exact hlt
    · rw [Array.getElem?_eq_none hge] at hh; cases hh
/-- the value: nil, or a slice of that length -/
theorem Ints.shape (h : Ints w B v xs) : ∃ ad cap, v = .slice ad xs.length cap := by
  rcases h.2 with ⟨hv, hn⟩ | ⟨g, cap, cur, hv, _⟩
  · exact ⟨none, 0, by rw [hv, hn]⟩
  · exact ⟨_, cap, hv⟩
theorem Ints.cell {g cap n : Nat} (h : Ints w B (.slice (some ⟨g, 0, none⟩) n cap) xs) {k : Nat} (hk : k < xs.length) : w.cell? ⟨g, k, none⟩ = some (.int .i64 xs[k]) := by
  have hn : n = xs.length := by
    rcases h.2 with ⟨h', _⟩ | ⟨g', cap', cur, h', _⟩
    · simp at h'
    · simp only [Value.slice.injEq] at h'; exact h'.2.1
  subst hn
  have := World.ownsRow.cellAt h k (by omega)
  rw [this]; simp [hk]
end
theorem run_app_ints (w : World) (ty : TypeId) (B : Nat) (v : Value) (xs : List Int) (hown : Ints w B v xs) (g m : Nat) (news : List Int) (hl : news.length = m)
    (hblk : w.heap[g]? = some (.cells (news.map (Value.int .i64)).toArray 3 (0, 0))) (hb : xs.length + m ≤ 4294967296) (hbase : B ≤ w.heap.size) :
    ∃ v' w', (Builtin.append_ #[35, 35] ty #[v, .slice (some ⟨g, 0, none⟩) m m]).run Tryz.prog w = .ok v' w' ∧ Ints w' B v' (xs ++ news) ∧ w.grownBy w' v.ownBlock := by
  obtain ⟨i0, hi, hz0, hz1, hz2⟩ := info_parts infoIntA
  obtain ⟨v', w', h1, h2, h3, _⟩ := run_append_own (P := Tryz.prog) w B 35 ty 3 i0 _ 1 8 Tryz.underlying35 hi hz0 hz1 hz2 rfl (by decide) v xs.length (xs.map (Value.int .i64)) hown ⟨g, 0, none⟩ m m (news.map (Value.int .i64)) (by simp [hl]) (by
      intro j u hj
      have : (⟨g, 0, none⟩ : Addr).add j = ⟨g, j, none⟩ := by unfold Addr.add; split <;> simp_all
      rw [this, cell_of_row w g j _ 3 (0, 0) hblk]
      simpa using hj) (by
      intro u hu
      obtain ⟨b, _, rfl⟩ := List.mem_map.1 hu
      rfl) (by unfold maxLen; omega) (by omega) hbase
  refine ⟨v', w', h1, ?_, h3⟩
  unfold Ints
  rw [List.length_append, hl, List.map_append]
  exact h2
theorem wp_app_ints {w : World} {o : Oper} {a : Act} {K : Act → World → Prop} {Q : Exit → Act → World → Prop} (s x : Operand)
    (ho : o.op = .call { callee := .builtin .append, args := #[s, x], argTypes := #[35, 35] })
    (B : Nat) (v : Value) (xs : List Int) (hs : a.eval s = v) (hown : Ints w B v xs)
    (g m : Nat) (news : List Int) (hx : a.eval x = .slice (some ⟨g, 0, none⟩) m m) (hl : news.length = m) (hblk : w.heap[g]? = some (.cells (news.map (Value.int .i64)).toArray 3 (0, 0)))
    (hb : xs.length + m ≤ 4294967296) (hbase : B ≤ w.heap.size)
    (h : ∀ v' w', Ints w' B v' (xs ++ news) → w.grownBy w' v.ownBlock → K (a.put o.dst v') w') : o.wp Tryz.prog a w K Q := by
  obtain ⟨v', w', hr, h2, h3⟩ := run_app_ints w o.type B v xs hown g m news hl hblk hb hbase
  unfold Oper.wp execOp
  simp only [ho, resolve, invoke, builtin, Sem.run_bind, Sem.run_pure, Result.andThen_ok, List.map_toArray, List.map_cons, List.map_nil, hs, hx, hr]
  exact h v' w' h2 h3
theorem wpList_app_ints {w : World} {ops : Array Oper} {rest : List Oper} {o : Oper} {a : Act} {Q : Exit → Act → World → Prop} (hgd : o.guard = none) (s x : Operand)
    (ho : o.op = .call { callee := .builtin .append, args := #[s, x], argTypes := #[35, 35] })
    (B : Nat) (v : Value) (xs : List Int) (hs : a.eval s = v) (hown : Ints w B v xs)
    (g m : Nat) (news : List Int) (hx : a.eval x = .slice (some ⟨g, 0, none⟩) m m) (hl : news.length = m) (hblk : w.heap[g]? = some (.cells (news.map (Value.int .i64)).toArray 3 (0, 0)))
    (hb : xs.length + m ≤ 4294967296) (hbase : B ≤ w.heap.size)
    (h : ∀ v' w', Ints w' B v' (xs ++ news) → w.grownBy w' v.ownBlock → wpList Tryz.prog ops Q rest (a.put o.dst v') w') : wpList Tryz.prog ops Q (o :: rest) a w :=
  wpList_plain hgd fun _ hK => wp_app_ints s x ho B v xs hs hown g m news hx hl hblk hb hbase fun v' w' h2 h3 => hK _ _ (h v' w' h2 h3)
theorem step_app_ints {w : World} {ops : Array Oper} {o : Oper} {a : Act} {K : Act → World → Prop} {Q : Exit → Act → World → Prop} {E : Prop} (hgd : o.guard = none) (s x : Operand)
    (ho : o.op = .call { callee := .builtin .append, args := #[s, x], argTypes := #[35, 35] })
    (B : Nat) (v : Value) (xs : List Int) (hs : a.eval s = v) (hown : Ints w B v xs)
    (g m : Nat) (news : List Int) (hx : a.eval x = .slice (some ⟨g, 0, none⟩) m m) (hl : news.length = m) (hblk : w.heap[g]? = some (.cells (news.map (Value.int .i64)).toArray 3 (0, 0)))
    (hb : xs.length + m ≤ 4294967296) (hbase : B ≤ w.heap.size)
    (h : ∀ v' w', Ints w' B v' (xs ++ news) → w.grownBy w' v.ownBlock → K (a.put o.dst v') w') :
    if Region.wanted o (yielded ops a.tmps) = true then Oper.wp Tryz.prog o a w K Q else E := by
  have hw : Region.wanted o (yielded ops a.tmps) = true := by simp [Region.wanted, hgd]
  rw [if_pos hw]
  exact wp_app_ints s x ho B v xs hs hown g m news hx hl hblk hb hbase h
theorem below_appi {W w w' : World} {v : Value} {xs : List Int} (hB : Below W.heap.size W w) (hs : Ints w W.heap.size v xs) (hg : w.grownBy w' v.ownBlock) : Below W.heap.size W w' :=
  hB.grown hg hB.size (fun _ hk => (World.ownsRow.lt hs _ hk).1)

/-! ### the set of numbers that were seen -/
end Go.Proofs.YtpppbkdbpbpinaaGreatDoor
