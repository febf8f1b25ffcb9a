/- groovelaw58.ReaderLists returns true for every input, and changes nothing that lay: no condition. (The row's text: the kit's proof-skeleton, its arguments of types []Sector and [][]int opened by hand.) -/
import Derived.Test.YtmajalpmbppkpaaRows
import Derived.Test.YtmajalpmbppkpaaRow
import Derived.Test.YtmajalpmbppkpaaL58a
import Derived.WalkKit
import Derived.ProofKit
import Derived.OpenShut
import Derived.ShutString
import Derived.SliceStrings
import Derived.ChangeSlices
import Derived.Deep.Slices
import Derived.Deep.Fields
import Derived.ChangeSame
import Derived.Carry
namespace Go.Proofs.Ytmajalpmbppkpaa.readerLists
open Go.ChangeShapes Go.WideShapes Go.ChangeAt Go.RowKit Go.Deep
set_option linter.unusedVariables false      -- a walk need not use every 'w<i>' (that an integer argument fits its kind)

theorem own : ownKnob Try.prog.godebug = none := by kernel_rfl
theorem laid : laidOutB Try.prog = true := by kernel_rfl

section
variable {H : Type} {enc : TypeId × Value → H} {P : Program} {w : World} {base : Nat} {spare : Nat → Bool} {held : Bool}
theorem open_slice_fields {t e : TypeId} {fs : Array Field} {fuel : Nat} {cs : List Value} {x : DataW H × List MemPlace} (ht : P.underlying t = some (.slice e)) (he : P.underlying e = some (.struct fs))
    (hone : oneCellFields P fs = true) (hC : P.cellsOf e = fs.size) (h : DataW.trod enc P w base spare held fuel t cs = some x) :
    (cs = [.slice none 0 0] ∧ x = (.nil, [])) ∨
    ∃ (a : Addr) (len cap m : Nat) (D : Nat → DataW H) (Pl : Nat → List MemPlace), cs = [.slice (some a) len cap] ∧ base ≤ a.block ∧ len ≤ cap ∧ cap ≤ maxLen ∧ m = (if spare a.block then cap else len) ∧
      x = (.slice ((List.range len).map D) ((List.range (m - len)).map fun j => D (len + j)), MemPlace.row a (m * fs.size) ++ (List.range m).flatMap Pl) ∧
      ∀ i, i < m → ∃ (ys : List (DataW H × List MemPlace)) (n : Nat), D i = .agg (ys.map (·.1)) ∧ Pl i = ys.flatMap (·.2) ∧ ys.length = fs.size ∧
        ∀ (j : Nat) (f : Field), fs[j]? = some f → ∃ (v : Value) (y : DataW H × List MemPlace), w.cell? (a.add (i * fs.size + j)) = some v ∧ ys[j]? = some y ∧ DataW.trod enc P w base spare held n f.type [v] = some y := by
  rcases open_slice ht h with h0 | ⟨a, len, cap, m, n, D, Pl, hcs, hb, hl, hm, hmm, hx, hi⟩
  · exact .inl h0
  · refine .inr ⟨a, len, cap, m, D, Pl, hcs, hb, hl, hm, hmm, by rw [hC] at hx; exact hx, fun i him => ?_⟩
    obtain ⟨cs', hc, ht'⟩ := hi i him
    rw [hC] at hc
    obtain ⟨ys, n', hn', hy, hlen, hyl, hf⟩ := DataW.trod_struct he ht'
    obtain ⟨_, hcl, hat⟩ := World.cells?_some hc
    simp only [Prod.mk.injEq] at hy
    refine ⟨ys, n', hy.1, hy.2, hyl, fun j f hj => ?_⟩
    obtain ⟨ho, hk⟩ := hone_of hone j f hj
    have hjl : j < fs.size := (Array.getElem?_eq_some_iff.1 hj).1
    have hcell := hat j hjl
    have hv : cs'[j]? = some (cs'[j]'(by omega)) := List.getElem?_eq_getElem (by omega)
    have h1 := hf j f hj
    rw [ho, hk] at h1
    have hone' : (cs'.drop j).take 1 = [cs'[j]'(by omega)] := by
      rw [List.drop_eq_getElem_cons (by omega)]
      rfl
    rw [hone'] at h1
    have hys : ys[j]? = some (ys[j]'(by omega)) := List.getElem?_eq_getElem (by omega)
    refine ⟨_, _, ?_, hys, h1.trans hys⟩
    rw [← Go.Deep.add_add, hcell, hv]

theorem add_at {b o n : Nat} : (⟨b, o, none⟩ : Addr).add n = ⟨b, o + n, none⟩ := by
  unfold Addr.add
  split
  · rename_i h; subst h; rfl
  · rfl
/-- a slice of ints that reads: it lies -/
theorem cell_ints {n : Nat} {cs : List Value} {y : DataW H × List MemPlace} (h : DataW.trod enc Try.prog w base spare held n 26 cs = some y) :
    ∃ A c, ∃ zs : List Int, cs = [.slice A zs.length c] ∧ RowI w A zs ∧ zs.length ≤ maxLen := by
  rcases open_ints Try.underlying26 Try.underlying3 (by kernel_rfl) h with ⟨rfl, _⟩ | ⟨a, len, cap, zs, rfl, _, hl, hm, hz, _, hcell, _⟩
  · exact ⟨none, 0, [], rfl, fun hp => absurd hp (by simp), Nat.zero_le _⟩
  · have hle : len ≤ zs.length := by rw [hz]; split <;> omega
    have hlen : (zs.take len).length = len := by rw [List.length_take]; omega
    refine ⟨some a, cap, zs.take len, by rw [hlen], fun hp => ?_, by rw [hlen]; omega⟩
    rw [hlen] at hp
    obtain ⟨b, o, sp⟩ := a
    have h0 := hcell 0 (by omega)
    obtain rfl : sp = none := by simpa [Addr.add] using World.cell?_spot h0
    rw [add_at] at h0
    refine ⟨b, o, rfl, World.block_lt_of_cell? w _ h0, fun k hk => ?_⟩
    have hk' : k < zs.length := by rw [hlen] at hk; omega
    have := hcell k hk'
    rw [add_at] at this
    rw [this, List.getElem_take, List.getD_eq_getElem?_getD, List.getElem?_eq_getElem hk']
    rfl
/-- a slice of sectors that reads: it lies -/
theorem row_secs {n : Nat} {cs : List Value} {y : DataW H × List MemPlace} (h : DataW.trod enc Try.prog w base spare held n 22 cs = some y) :
    ∃ A c, ∃ xs : List Sct, cs = [.slice A xs.length c] ∧ RowC w A xs ∧ (∀ x ∈ xs, (Lit.int .i64 x.ix).wf = true) ∧ xs.length ≤ maxLen := by
  rcases open_slice_fields Try.underlying22 Try.underlying71 (by kernel_rfl) (by kernel_rfl) h with ⟨rfl, _⟩ | ⟨a, len, cap, m, D, Pl, rfl, _, hl, hm, hmm, _, hf⟩
  · exact ⟨none, 0, [], rfl, fun hp => absurd hp (by simp), by simp, Nat.zero_le _⟩
  · have hle : len ≤ m := by rw [hmm]; split <;> omega
    have HS : ∀ i, ∃ s : Sct, i < m → (Lit.int .i64 s.ix).wf = true ∧ w.cell? (a.add (i * 4)) = some (.int .i64 s.ix) ∧ w.cell? (a.add (i * 4 + 1)) = some (.int .i64 s.pos) ∧ w.cell? (a.add (i * 4 + 2)) = some (.int .i64 s.st) ∧
        ∃ D c, w.cell? (a.add (i * 4 + 3)) = some (.slice D s.dt.length c) ∧ RowI w D s.dt := by
      intro i
      by_cases hi : i < m
      · obtain ⟨ys, n', _, _, _, hg⟩ := hf i hi
        obtain ⟨v0, y0, c0, _, t0⟩ := hg 0 _ rfl
        obtain ⟨v1, y1, c1, _, t1⟩ := hg 1 _ rfl
        obtain ⟨v2, y2, c2, _, t2⟩ := hg 2 _ rfl
        obtain ⟨v3, y3, c3, _, t3⟩ := hg 3 _ rfl
        obtain ⟨z0, e0, _, w0⟩ := DataW.trod_int Try.underlying3 t0
        obtain ⟨z1, e1, _, w1⟩ := DataW.trod_int Try.underlying3 t1
        obtain ⟨z2, e2, _, w2⟩ := DataW.trod_int Try.underlying3 t2
        obtain ⟨D3, c, zs, e3, hr, _⟩ := cell_ints t3
        simp only [List.cons.injEq, and_true] at e0 e1 e2 e3
        subst e0 e1 e2 e3
        exact ⟨⟨z0, z1, z2, zs⟩, fun _ => ⟨w0, c0, c1, c2, D3, c, c3, hr⟩⟩
      · exact ⟨⟨0, 0, 0, []⟩, fun h => absurd h hi⟩
    obtain ⟨S, hS⟩ := Classical.axiomOfChoice HS
    have hlen : ((List.range len).map S).length = len := by rw [List.length_map, List.length_range]
    refine ⟨some a, cap, (List.range len).map S, by rw [hlen], fun hp => ?_, fun x hx => ?_, by rw [hlen]; omega⟩
    · rw [hlen] at hp
      obtain ⟨b, o, sp⟩ := a
      have h0 := (hS 0 (by omega)).2.1
      obtain rfl : sp = none := by simpa [Addr.add] using World.cell?_spot h0
      rw [add_at] at h0
      refine ⟨b, o, rfl, World.block_lt_of_cell? w _ h0, fun k hk => ?_⟩
      rw [hlen] at hk
      obtain ⟨_, c0, c1, c2, D3, c, c3, hr⟩ := hS k (by omega)
      rw [add_at] at c0 c1 c2 c3
      have e : ((List.range len).map S)[k]'(by rw [hlen]; exact hk) = S k := by rw [List.getElem_map, List.getElem_range]
      rw [e]
      exact ⟨c0, c1, c2, D3, c, c3, hr⟩
    · obtain ⟨i, hi, rfl⟩ := List.mem_map.1 hx
      exact (hS i (by have := List.mem_range.1 hi; omega)).1
/-- a slice of slices of ints that reads: it lies -/
theorem row_intss {n : Nat} {cs : List Value} {y : DataW H × List MemPlace} (h : DataW.trod enc Try.prog w base spare held n 23 cs = some y) :
    ∃ A c, ∃ ds : List (List Int), cs = [.slice A ds.length c] ∧ RowD w A ds ∧ ds.length ≤ maxLen := by
  rcases open_slice Try.underlying23 h with ⟨rfl, _⟩ | ⟨a, len, cap, m, n', D, Pl, rfl, _, hl, hm, hmm, _, hf⟩
  · exact ⟨none, 0, [], rfl, fun hp => absurd hp (by simp), Nat.zero_le _⟩
  · have hle : len ≤ m := by rw [hmm]; split <;> omega
    have hC : Try.prog.cellsOf 26 = 1 := by kernel_rfl
    have HS : ∀ i, ∃ s : List Int, i < m → ∃ D c, w.cell? (a.add i) = some (.slice D s.length c) ∧ RowI w D s := by
      intro i
      by_cases hi : i < m
      · obtain ⟨cs', hc, ht⟩ := hf i hi
        rw [hC, Nat.mul_one] at hc
        obtain ⟨D3, c, zs, rfl, hr, _⟩ := cell_ints ht
        obtain ⟨_, _, hat⟩ := World.cells?_some hc
        have := hat 0 (by omega)
        rw [add_zero_] at this
        exact ⟨zs, fun _ => ⟨D3, c, this, hr⟩⟩
      · exact ⟨[], fun h => absurd h hi⟩
    obtain ⟨S, hS⟩ := Classical.axiomOfChoice HS
    have hlen : ((List.range len).map S).length = len := by rw [List.length_map, List.length_range]
    refine ⟨some a, cap, (List.range len).map S, by rw [hlen], fun hp => ?_, by rw [hlen]; omega⟩
    rw [hlen] at hp
    obtain ⟨b, o, sp⟩ := a
    obtain ⟨_, _, h0, _⟩ := hS 0 (by omega)
    obtain rfl : sp = none := by simpa [Addr.add] using World.cell?_spot h0
    rw [add_at] at h0
    refine ⟨b, o, rfl, World.block_lt_of_cell? w _ h0, fun k hk => ?_⟩
    rw [hlen] at hk
    obtain ⟨D3, c, c3, hr⟩ := hS k (by omega)
    rw [add_at] at c3
    have e : ((List.range len).map S)[k]'(by rw [hlen]; exact hk) = S k := by rw [List.getElem_map, List.getElem_range]
    rw [e]
    exact ⟨D3, c, c3, hr⟩
end

set_option maxRecDepth 100000 in
set_option maxHeartbeats 2000000 in
theorem lifted (os : Os) (started : os.Started) (H : Type) (enc : TypeId × Value → H) :
    ReturnsInHanded {} Try.checked os 3 .any (Rows.readerListsSpec.pre6 enc Try.prog Try.f3 Rows.readerListsRow.domain false) (Rows.readerListsSpec.post enc Try.prog Try.f3 false true false false) := by
  refine returnsInHanded_of_change (C := Try.checked) own started (by kernel_rfl) Try.func3
    (ChangeSpec.witness6 (enc := enc) (C := Try.checked) false ⟨#[], #[.slice none 0 0, .slice none 0 0], []⟩ 8 (by kernel_rfl) (by kernel_rfl) (by kernel_rfl) (by kernel_rfl)) ?_
  intro W base args ds gs before hval0 hW hcnd _
  have hval : ∀ (j : Nat) t v, Try.f3.params[j]? = some t → args[j]? = some v → Value.okWide Try.prog W .any base t v := hval0
  have hW' := hW
  obtain ⟨p, q, hA0, hV, rfl, hfz, hnd⟩ := hW
  have hA : DataW.TrodAll enc Try.prog W 0 (fun _ => true) true Try.f3.params.toList args.toList ds p := hA0
  rw [Try.params3] at hA hval
  obtain ⟨v0, vs0, d0, ds0, p0, q0, hargs, rfl, rfl, h0, r0⟩ := trodAll_cons hA
  obtain ⟨v1, vs1, d1, ds1, p1, q1, rfl, rfl, rfl, h1, r1⟩ := trodAll_cons r0
  obtain ⟨rfl, rfl, rfl⟩ := trodAll_nil r1
  obtain rfl : args = #[v0, v1] := by cases args; simp_all
  obtain ⟨rfl, rfl⟩ := trodVars_none hV
  obtain ⟨a0, len0, cap0, rfl⟩ := okWide_slice Try.underlying22 (hval 0 22 v0 rfl rfl)
  obtain ⟨a1, len1, cap1, rfl⟩ := okWide_slice Try.underlying23 (hval 1 23 v1 rfl rfl)
  have h0k := h0
  have h1k := h1
  obtain ⟨fuel0, hf0⟩ := h0
  obtain ⟨fuel1, hf1⟩ := h1
  clear hA0 hval0
  simp only [List.append_nil] at hW'
  have hlt0 : ∀ x ∈ p0, x.block < W.heap.size := fun x hx => by simpa using hW'.lt x (by simp [hx])
  have hlt1 : ∀ x ∈ p1, x.block < W.heap.size := fun x hx => by simpa using hW'.lt x (by simp [hx])
  have fin : ∀ W' : World, Below W.heap.size W W' → Rows.readerListsSpec.post enc Try.prog Try.f3 false true false false W #[.slice a0 len0 cap0, .slice a1 len1 cap1] (.bool true) W' := fun W' hg =>
    post_below (pa := p0 ++ p1) (pv := []) hW' (fun _ _ _ => (trodAll_cons_mk (shut_bool Try.underlying4 _) trodAll_mk0))
      (fun sp hsp => (trodAll_cons_mk (WideElems.Trod_stays laid (by kernel_rfl) (of_decide_eq_true (by kernel_rfl)) h0k (fun x hx => hg.same (hlt0 x hx)) (fun x hx => hsp x (by simp [hx])))
        (trodAll_mk1 (WideElems.Trod_stays laid (by kernel_rfl) (of_decide_eq_true (by kernel_rfl)) h1k (fun x hx => hg.same (hlt1 x hx)) (fun x hx => hsp x (by simp [hx]))))))
      (fun _ _ => rfl) (by simp) hg (ok_one (by kernel_rfl) rfl (okWide_bool_mk Try.underlying4 _))
  obtain ⟨A, c, xs, hcs, hR, hw, hb⟩ := row_secs hf0
  obtain ⟨A2, c2, ds, hcs2, hD, hb2⟩ := row_intss hf1
  simp [Value.cells] at hcs hcs2
  obtain ⟨rfl, rfl, rfl⟩ := hcs
  obtain ⟨rfl, rfl, rfl⟩ := hcs2
  refine (lLists_any xs ds a0 a1 cap0 cap1 hw (by unfold maxLen at hb; omega) (by unfold maxLen at hb2; omega) W hR hD).mono fun e W' ⟨he, hg⟩ => ?_
  subst he
  exact ⟨_, rfl, fin W' hg⟩

theorem over : Rows.readerListsRow.holds Try.pinned (OpenSpec.ofChange Rows.readerListsSpec) :=
  OpenClaim.holds_of_wide 3 Try.f3 rfl rfl rfl rfl rfl rfl rfl ⟨rfl, rfl, rfl, rfl, rfl⟩ rfl rfl rfl rfl rfl (by kernel_rfl) Try.func3 (by kernel_rfl)
    (of_decide_eq_true (by kernel_rfl)) (by unfold Func.isWrapper; first | (rw [if_pos (by decide +kernel)]; kernel_rfl) | (rw [if_neg (by decide +kernel)]; exact ⟨rfl, rfl⟩))
    (fun os started H enc _ => lifted os started H enc)

theorem proved : Rows.ReaderListsSaid :=
  over
#print axioms proved
end Go.Proofs.Ytmajalpmbppkpaa.readerLists
