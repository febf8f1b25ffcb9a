import Derived.Test.YtbnpjoiojhnimaaGreatDoorRows
import Derived.Test.YtbnpjoiojhnimaaGreatDoorG22
import Derived.Test.YtbnpjoiojhnimaaGreatDoorG32
import Derived.Test.YtbnpjoiojhnimaaGreatDoorG21
import Derived.WalkKit
import Derived.ProofKit
import Derived.OpenShut
import Derived.ShutString
import Derived.SliceStrings
import Derived.ChangeSlices
import Derived.Deep.Slices
import Derived.Deep.Fields
import Derived.ChangeSame
import Derived.Carry
import Derived.Lib.SmallJoins
import Derived.Laws.StructEq
import Derived.BigQuiet
set_option linter.unusedSimpArgs false
set_option linter.unusedVariables false
/- Arguments opened: a certificate with all its rows, and how much it reads; integers; bytes. -/
set_option linter.unusedVariables false
set_option maxRecDepth 100000
namespace Go.Proofs.YtbnpjoiojhnimaaGreatDoor.Opr
open Go.ChangeShapes Go.WideShapes Go.ChangeAt Go.RowKit Go.Deep Go.Joins
theorem getDq {α : Type} {xs : List α} {k : Nat} (d : α) (h : k < xs.length) : xs.getD k d = xs[k] := by simp [List.getD, h]
theorem one_le {H : Type} (d : DataW H) : 1 ≤ Rows.uptoBulk d := by
 cases d with
 | lit l => cases l <;> simp [Rows.uptoBulk]
 | _ => simp [Rows.uptoBulk]
theorem part_le {H : Type} {d : DataW H} {l : List (DataW H)} (h : d ∈ l) : Rows.uptoBulk d ≤ Rows.uptoBulkAll l := by
 induction l with
 | nil => cases h
 | cons x r ih =>
  simp only [Rows.uptoBulkAll]
  cases List.mem_cons.1 h with
  | inl e => subst e; omega
  | inr e => have := ih e; omega
theorem bulk_app {H : Type} (l r : List (DataW H)) : Rows.uptoBulkAll (l ++ r) = Rows.uptoBulkAll l + Rows.uptoBulkAll r := by
 induction l with
 | nil => simp [Rows.uptoBulkAll]
 | cons x l ih => simp only [List.cons_append, Rows.uptoBulkAll, ih]; omega
theorem bulk_len {H : Type} (l : List (DataW H)) : l.length ≤ Rows.uptoBulkAll l := by
 induction l with
 | nil => simp [Rows.uptoBulkAll]
 | cons x r ih => have := one_le x; simp only [Rows.uptoBulkAll, List.length_cons]; omega
theorem bulk_flat {H : Type} {α : Type} (L : List (List α)) (D : Nat → DataW H) (h : ∀ i (hi : i < L.length), L[i].length + 1 ≤ Rows.uptoBulk (D i)) : L.flatten.length + L.length ≤ Rows.uptoBulkAll ((List.range L.length).map D) := by
 have key : ∀ n, n ≤ L.length → (L.take n).flatten.length + n ≤ Rows.uptoBulkAll ((List.range n).map D) := by
  intro n
  induction n with
  | zero => intro _; simp
  | succ n ih =>
   intro hn
   have h1 := ih (by omega)
   have h2 := h n (by omega)
   rw [List.range_succ, List.map_append, bulk_app, List.take_succ_eq_append_getElem (by omega), List.flatten_append]
   simp only [List.map_cons, List.map_nil, Rows.uptoBulkAll, List.length_append, List.flatten_cons, List.flatten_nil, List.append_nil]
   omega
 have := key L.length (Nat.le_refl _)
 rwa [List.take_length] at this
theorem list_of {α : Type} {n : Nat} {P : Nat → α → Prop} (h : ∀ i, i < n → ∃ s, P i s) : ∃ L : List α, L.length = n ∧ ∀ i (hi : i < L.length), P i L[i] := by
 induction n with
 | zero => exact ⟨[], rfl, fun i hi => absurd hi (by simp)⟩
 | succ n ih =>
  obtain ⟨L, h1, h2⟩ := ih (fun i hi => h i (by omega))
  obtain ⟨s, hs⟩ := h n (Nat.lt_succ_self n)
  refine ⟨L ++ [s], by simp [h1], fun i hi => ?_⟩
  by_cases hl : i < L.length
  ·rw [List.getElem_append_left hl]; exact h2 i hl
  ·have : i = L.length := by simp at hi; omega
   subst this
   rw [List.getElem_append_right (Nat.le_refl _)]
   simpa [h1] using hs
section
variable {H : Type} {enc : TypeId × Value → H} {w : World} {base : Nat} {spare : Nat → Bool} {held : Bool}
theorem add_at {b o n : Nat} : (⟨b, o, none⟩ : Addr).add n = ⟨b, o + n, none⟩ := by
 unfold Addr.add
 split
 ·rename_i h; subst h; rfl
 ·rfl
theorem sl_open {t e : TypeId} {n : Nat} {cs : List Value} {y : DataW H × List MemPlace} (ht : Tryz.prog.underlying t = some (.slice e)) (hC : 0 < Tryz.prog.cellsOf e) (h : DataW.trod enc Tryz.prog w base spare held n t cs = some y) :
  ∃ (s : Sl) (D : Nat → DataW H), cs = [s.v] ∧ s.n ≤ s.c ∧ s.c ≤ maxLen ∧ Rows.uptoBulkAll ((List.range s.n).map D) + 1 ≤ Rows.uptoBulk y.1 ∧ (0 < s.n → ∃ b o, s.A = some ⟨b, o, none⟩ ∧ b < w.heap.size ∧ ∀ i, i < s.n → ∃ (cs' : List Value) (n' : Nat) (p' : List MemPlace), cs'.length = Tryz.prog.cellsOf e ∧ (∀ j, j < Tryz.prog.cellsOf e → w.cell? ⟨b, o + i * Tryz.prog.cellsOf e + j, none⟩ = cs'[j]?) ∧ DataW.trod enc Tryz.prog w base spare held n' e cs' = some (D i, p')) := by
 rcases open_slice ht h with ⟨rfl, rfl⟩ | ⟨a, len, cap, m, n', D, Pl, rfl, _, hl, hm, hmm, rfl, hf⟩
 ·exact ⟨⟨none, 0, 0⟩, fun _ => .nil, rfl, Nat.le_refl _, Nat.zero_le _, by simp [Rows.uptoBulkAll, Rows.uptoBulk], fun hp => absurd hp (by simp)⟩
 ·have hle : len ≤ m := by rw [hmm]; split <;> omega
  refine ⟨⟨some a, len, cap⟩, D, rfl, hl, hm, ?_, fun hp => ?_⟩
  ·simp only [Rows.uptoBulk]; omega
  obtain ⟨b, o, sp⟩ := a
  have hsp : sp = none ∧ b < w.heap.size := by
   obtain ⟨cs', hc, _⟩ := hf 0 (by show 0 < m; have : 0 < len := hp; omega)
   obtain ⟨_, hcl, hat⟩ := World.cells?_some hc
   have h0 := hat 0 hC
   obtain ⟨v, hv⟩ : ∃ v, cs'[0]? = some v := ⟨_, List.getElem?_eq_getElem (by omega)⟩
   rw [hv] at h0
   refine ⟨by simpa [Addr.add] using World.cell?_spot h0, ?_⟩
   have := World.block_lt_of_cell? w _ h0
   unfold Addr.add at this
   split at this <;> (split at this <;> exact this)
  obtain ⟨rfl, hb⟩ := hsp
  refine ⟨b, o, rfl, hb, fun i hi => ?_⟩
  obtain ⟨cs', hc, ht'⟩ := hf i (by have : i < len := hi; omega)
  obtain ⟨_, hcl, hat⟩ := World.cells?_some hc
  refine ⟨cs', n', _, hcl, fun j hj => ?_, ht'⟩
  have := hat j hj
  rw [add_at, add_at] at this
  exact this
theorem row_open {α : Type} {t e : TypeId} {n : Nat} {cs : List Value} {y : DataW H × List MemPlace} (ht : Tryz.prog.underlying t = some (.slice e)) (hC : 0 < Tryz.prog.cellsOf e) (h : DataW.trod enc Tryz.prog w base spare held n t cs = some y)
  (Q : DataW H → (Nat → Option Value) → α → Prop) (hQ : ∀ (cs' : List Value) (n' : Nat) (d : DataW H) (p' : List MemPlace) (f : Nat → Option Value), cs'.length = Tryz.prog.cellsOf e → (∀ j, j < Tryz.prog.cellsOf e → f j = cs'[j]?) → DataW.trod enc Tryz.prog w base spare held n' e cs' = some (d, p') → ∃ x, Q d f x) :
  ∃ (s : Sl) (L : List α) (D : Nat → DataW H), cs = [s.v] ∧ s.n = L.length ∧ s.n ≤ s.c ∧ s.c ≤ maxLen ∧ Rows.uptoBulkAll ((List.range L.length).map D) + 1 ≤ Rows.uptoBulk y.1 ∧ (0 < L.length → ∃ b o, s.A = some ⟨b, o, none⟩ ∧ b < w.heap.size ∧ ∀ i (hi : i < L.length), Q (D i) (fun j => w.cell? ⟨b, o + i * Tryz.prog.cellsOf e + j, none⟩) L[i]) := by
 obtain ⟨s, D, rfl, h1, h2, hb, h3⟩ := sl_open ht hC h
 by_cases h0 : 0 < s.n
 ·obtain ⟨b, o, hA, hbl, hi⟩ := h3 h0
  obtain ⟨L, hL, hP⟩ := list_of (n := s.n) (P := fun i x => Q (D i) (fun j => w.cell? ⟨b, o + i * Tryz.prog.cellsOf e + j, none⟩) x) fun i hin => by
   obtain ⟨cs', n', p', hl, hc, ht'⟩ := hi i hin
   exact hQ cs' n' _ p' _ hl hc ht'
  exact ⟨s, L, D, rfl, hL.symm, h1, h2, by rw [hL]; exact hb, fun _ => ⟨b, o, hA, hbl, hP⟩⟩
 ·exact ⟨s, [], D, rfl, by simp; omega, h1, h2, by simp only [List.length_nil]; rw [show s.n = 0 by omega] at hb; exact hb, fun h => absurd h (by simp)⟩
theorem open_strs {n : Nat} {cs : List Value} {y : DataW H × List MemPlace} (h : DataW.trod enc Tryz.prog w base spare held n 25 cs = some y) :
  ∃ (s : Sl) (ss : List ByteArray), cs = [s.v] ∧ s.n = ss.length ∧ s.n ≤ s.c ∧ s.c ≤ maxLen ∧ RowT w s.A ss := by
 have hC : Tryz.prog.cellsOf 9 = 1 := by kernel_rfl
 obtain ⟨s, L, D, rfl, h1, h2, h3, _, h4⟩ := row_open Tryz.underlying25 (by rw [hC]; decide) h (fun _ f x => f 0 = some (.string x)) fun cs' n' d p' f hl hf ht => by
  obtain ⟨x, rfl, _⟩ := DataW.trod_string Tryz.underlying9 ht
  exact ⟨x, hf 0 (by rw [hC]; decide)⟩
 rw [hC] at h4
 exact ⟨s, L, rfl, h1, h2, h3, fun h0 => by obtain ⟨b, o, hA, hb, hc⟩ := h4 h0; exact ⟨b, o, hA, hb, fun k hk => by have := hc k hk; simpa using this⟩⟩
theorem open_introw {n : Nat} {cs : List Value} {y : DataW H × List MemPlace} (h : DataW.trod enc Tryz.prog w base spare held n 31 cs = some y) :
  ∃ (s : Sl) (zs : List Int), cs = [s.v] ∧ s.n = zs.length ∧ s.n ≤ s.c ∧ s.c ≤ maxLen ∧ RowI w s.A zs ∧ zs.length + 1 ≤ Rows.uptoBulk y.1 := by
 have hC : Tryz.prog.cellsOf 3 = 1 := by kernel_rfl
 obtain ⟨s, L, D, rfl, h1, h2, h3, hb, h4⟩ := row_open Tryz.underlying31 (by rw [hC]; decide) h (fun _ f x => f 0 = some (.int .i64 x)) fun cs' n' d p' f hl hf ht => by
  obtain ⟨x, rfl, _⟩ := DataW.trod_int Tryz.underlying3 ht
  exact ⟨x, hf 0 (by rw [hC]; decide)⟩
 rw [hC] at h4
 refine ⟨s, L, rfl, h1, h2, h3, fun h0 => ?_, ?_⟩
 ·obtain ⟨b, o, hA, hb, hc⟩ := h4 h0
  exact ⟨b, o, hA, hb, fun k hk => by have := hc k hk; simpa using this⟩
 ·have := bulk_len ((List.range L.length).map D)
  simp at this
  omega
theorem open_introws {n : Nat} {cs : List Value} {y : DataW H × List MemPlace} (h : DataW.trod enc Tryz.prog w base spare held n 28 cs = some y) :
  ∃ (s : Sl) (ds : List (List Int)), cs = [s.v] ∧ s.n = ds.length ∧ s.n ≤ s.c ∧ s.c ≤ maxLen ∧ RowD w s.A ds ∧ ds.flatten.length + ds.length + 1 ≤ Rows.uptoBulk y.1 := by
 have hC : Tryz.prog.cellsOf 31 = 1 := by kernel_rfl
 obtain ⟨s, L, D, rfl, h1, h2, h3, hb, h4⟩ := row_open Tryz.underlying28 (by rw [hC]; decide) h (fun d f x => (∃ A c, f 0 = some (.slice A x.length c) ∧ RowI w A x) ∧ x.length + 1 ≤ Rows.uptoBulk d) fun cs' n' d p' f hl hf ht => by
  obtain ⟨⟨A, m, c⟩, zs, rfl, hn, _, _, hR, hbk⟩ := open_introw ht
  simp only at hn hR
  subst hn
  exact ⟨zs, ⟨A, c, hf 0 (by rw [hC]; decide), hR⟩, hbk⟩
 rw [hC] at h4
 refine ⟨s, L, rfl, h1, h2, h3, fun h0 => ?_, ?_⟩
 ·obtain ⟨b, o, hA, hb, hc⟩ := h4 h0
  exact ⟨b, o, hA, hb, fun k hk => by obtain ⟨⟨D, c, g1, g2⟩, _⟩ := hc k hk; exact ⟨D, c, by simpa using g1, g2⟩⟩
 ·by_cases h0 : 0 < L.length
  ·obtain ⟨b, o, _, _, hc⟩ := h4 h0
   have := bulk_flat L D fun i hi => (hc i hi).2
   omega
  ·have e : L = [] := List.eq_nil_of_length_eq_zero (by omega)
   subst e
   simp only [List.flatten_nil, List.length_nil]
   exact one_le _
theorem open_splits {n : Nat} {cs : List Value} {y : DataW H × List MemPlace} (h : DataW.trod enc Tryz.prog w base spare held n 53 cs = some y) :
  ∃ (s : Sl) (ss : List Spl), cs = [s.v] ∧ s.n = ss.length ∧ s.n ≤ s.c ∧ s.c ≤ maxLen ∧ RowSp w s.A ss ∧ (∀ x ∈ ss, x.2.flatten.length + x.2.length ≤ Rows.uptoBulk y.1) ∧ ss.length + 1 ≤ Rows.uptoBulk y.1 := by
 have hC : Tryz.prog.cellsOf 148 = 2 := by kernel_rfl
 have k1 : Tryz.prog.cellsOf 3 = 1 := by kernel_rfl
 have k2 : Tryz.prog.cellsOf 28 = 1 := by kernel_rfl
 obtain ⟨s, L, D, rfl, h1, h2, h3, hb, h4⟩ := row_open Tryz.underlying53 (by rw [hC]; decide) h (fun d f (x : Spl) => (f 0 = some (.int .i64 x.1) ∧ ∃ A c, f 1 = some (.slice A x.2.length c) ∧ RowD w A x.2) ∧ x.2.flatten.length + x.2.length + 1 ≤ Rows.uptoBulk d) fun cs' n' d p' f hl hf ht => by
  rw [hC] at hl hf
  obtain ⟨y0, y1, _, hx, _, t0, t1⟩ := trod_struct2 Tryz.underlying148 ht
  match cs', hl, hf with
  | [a0, a1], _, hf =>
   simp [k1, k2] at t0 t1
   obtain ⟨z, e0, _⟩ := DataW.trod_int Tryz.underlying3 t0
   obtain ⟨⟨A, m, c⟩, ds, e1, hn, _, _, hR, hbk⟩ := open_introws t1
   simp only [List.cons.injEq, and_true] at e0 e1
   simp only at hn hR
   subst hn e0 e1
   refine ⟨(z, ds), ⟨hf 0 (by decide), A, c, hf 1 (by decide), hR⟩, ?_⟩
   obtain ⟨rfl, _⟩ := Prod.mk.inj hx
   simp only [Rows.uptoBulk, Rows.uptoBulkAll]
   omega
 rw [hC] at h4
 have hat : ∀ i, i < L.length → Rows.uptoBulk (D i) + 1 ≤ Rows.uptoBulk y.1 := fun i hi => by
  have := part_le (d := D i) (l := (List.range L.length).map D) (List.mem_map.2 ⟨i, List.mem_range.2 hi, rfl⟩)
  omega
 refine ⟨s, L, rfl, h1, h2, h3, fun h0 => ?_, fun x hx => ?_, ?_⟩
 ·obtain ⟨b, o, hA, hb, hc⟩ := h4 h0
  exact ⟨b, o, hA, hb, fun k hk => by obtain ⟨⟨g0, D, c, g1, g2⟩, _⟩ := hc k hk; exact ⟨by simpa using g0, D, c, by simpa using g1, g2⟩⟩
 ·obtain ⟨i, hi, rfl⟩ := List.getElem_of_mem hx
  obtain ⟨b, o, _, _, hc⟩ := h4 (by omega)
  have g1 := (hc i hi).2
  have g2 := hat i hi
  omega
 ·have := bulk_len ((List.range L.length).map D)
  simp at this
  omega
theorem open_rounds {n : Nat} {cs : List Value} {y : DataW H × List MemPlace} (h : DataW.trod enc Tryz.prog w base spare held n 32 cs = some y) :
  ∃ (s : Sl) (rs : List (List Spl)), cs = [s.v] ∧ s.n = rs.length ∧ s.n ≤ s.c ∧ s.c ≤ maxLen ∧ RowR w s.A rs ∧ ∀ ss ∈ rs, ss.length ≤ Rows.uptoBulk y.1 ∧ ∀ x ∈ ss, x.2.flatten.length + x.2.length ≤ Rows.uptoBulk y.1 := by
 have hC : Tryz.prog.cellsOf 53 = 1 := by kernel_rfl
 obtain ⟨s, L, D, rfl, h1, h2, h3, hb, h4⟩ := row_open Tryz.underlying32 (by rw [hC]; decide) h (fun d f (x : List Spl) => (∃ A c, f 0 = some (.slice A x.length c) ∧ RowSp w A x) ∧ x.length + 1 ≤ Rows.uptoBulk d ∧ ∀ z ∈ x, z.2.flatten.length + z.2.length ≤ Rows.uptoBulk d) fun cs' n' d p' f hl hf ht => by
  obtain ⟨⟨A, m, c⟩, ss, rfl, hn, _, _, hR, hbk, hbl⟩ := open_splits ht
  simp only at hn hR
  subst hn
  exact ⟨ss, ⟨A, c, hf 0 (by rw [hC]; decide), hR⟩, hbl, hbk⟩
 rw [hC] at h4
 refine ⟨s, L, rfl, h1, h2, h3, fun h0 => ?_, fun ss hss => ?_⟩
 ·obtain ⟨b, o, hA, hb, hc⟩ := h4 h0
  exact ⟨b, o, hA, hb, fun k hk => by obtain ⟨⟨D, c, g1, g2⟩, _⟩ := hc k hk; exact ⟨D, c, by simpa using g1, g2⟩⟩
 ·obtain ⟨i, hi, rfl⟩ := List.getElem_of_mem hss
  obtain ⟨b, o, _, _, hc⟩ := h4 (by omega)
  obtain ⟨_, g1, g2⟩ := hc i hi
  have := part_le (d := D i) (l := (List.range L.length).map D) (List.mem_map.2 ⟨i, List.mem_range.2 hi, rfl⟩)
  exact ⟨by omega, fun x hx => by have := g2 x hx; omega⟩
theorem open_edges {n : Nat} {cs : List Value} {y : DataW H × List MemPlace} (h : DataW.trod enc Tryz.prog w base spare held n 22 cs = some y) :
  ∃ (s : Sl) (es : List Edg), cs = [s.v] ∧ s.n = es.length ∧ s.n ≤ s.c ∧ s.c ≤ maxLen ∧ RowE w s.A es := by
 have hC : Tryz.prog.cellsOf 72 = 3 := by kernel_rfl
 have k1 : Tryz.prog.cellsOf 3 = 1 := by kernel_rfl
 obtain ⟨s, L, D, rfl, h1, h2, h3, _, h4⟩ := row_open Tryz.underlying22 (by rw [hC]; decide) h (fun _ f (x : Edg) => f 0 = some (.int .i64 x.f) ∧ f 1 = some (.int .i64 x.l) ∧ f 2 = some (.int .i64 x.t)) fun cs' n' d p' f hl hf ht => by
  rw [hC] at hl hf
  obtain ⟨_, _, _, _, _, _, t0, t1, t2⟩ := trod_struct3 Tryz.underlying72 ht
  match cs', hl, hf with
  | [a0, a1, a2], _, hf =>
   simp [k1] at t0 t1 t2
   obtain ⟨z0, e0, _⟩ := DataW.trod_int Tryz.underlying3 t0
   obtain ⟨z1, e1, _⟩ := DataW.trod_int Tryz.underlying3 t1
   obtain ⟨z2, e2, _⟩ := DataW.trod_int Tryz.underlying3 t2
   simp only [List.cons.injEq, and_true] at e0 e1 e2
   subst e0 e1 e2
   exact ⟨⟨z0, z1, z2⟩, hf 0 (by decide), hf 1 (by decide), hf 2 (by decide)⟩
 rw [hC] at h4
 exact ⟨s, L, rfl, h1, h2, h3, fun h0 => by obtain ⟨b, o, hA, hb, hc⟩ := h4 h0; exact ⟨b, o, hA, hb, fun k hk => by have := hc k hk; simpa using this⟩⟩
theorem open_aints {n : Nat} {cs : List Value} {y : DataW H × List MemPlace} (h : DataW.trod enc Tryz.prog w base spare held n 35 cs = some y) :
  ∃ (s : Sl) (nb : Nat → Bool) (mb : Nat → ByteArray), cs = [s.v] ∧ s.n ≤ s.c ∧ s.c ≤ maxLen ∧ AIs w s.A s.n nb mb := by
 have hC : Tryz.prog.cellsOf 55 = 2 := by kernel_rfl
 have k1 : Tryz.prog.cellsOf 4 = 1 := by kernel_rfl
 have k2 : Tryz.prog.cellsOf 9 = 1 := by kernel_rfl
 obtain ⟨s, L, D, rfl, h1, h2, h3, _, h4⟩ := row_open Tryz.underlying35 (by rw [hC]; decide) h (fun _ f (x : Bool × ByteArray) => f 0 = some (.bool x.1) ∧ f 1 = some (.string x.2)) fun cs' n' d p' f hl hf ht => by
  rw [hC] at hl hf
  obtain ⟨_, _, _, _, _, t0, t1⟩ := trod_struct2 Tryz.underlying55 ht
  match cs', hl, hf with
  | [a0, a1], _, hf =>
   simp [k1, k2] at t0 t1
   obtain ⟨z0, e0, _⟩ := DataW.trod_bool Tryz.underlying4 t0
   obtain ⟨z1, e1, _⟩ := DataW.trod_string Tryz.underlying9 t1
   simp only [List.cons.injEq, and_true] at e0 e1
   subst e0 e1
   exact ⟨(z0, z1), hf 0 (by decide), hf 1 (by decide)⟩
 rw [hC] at h4
 refine ⟨s, fun i => (L.getD i (false, .empty)).1, fun i => (L.getD i (false, .empty)).2, rfl, h2, h3, fun h0 => ?_⟩
 obtain ⟨b, o, hA, hb, hc⟩ := h4 (by omega)
 refine ⟨b, o, hA, hb, fun i hi => ?_⟩
 have := hc i (by omega)
 dsimp only
 rw [getDq _ (by omega)]
 simpa using this
theorem open_bytes {n : Nat} {cs : List Value} {y : DataW H × List MemPlace} (h : DataW.trod enc Tryz.prog w base spare held n 39 cs = some y) :
  ∃ (s : Sl) (bs : List Int), cs = [s.v] ∧ s.n = bs.length ∧ s.n ≤ s.c ∧ s.c ≤ maxLen ∧ (0 < bs.length → ∃ b o, s.A = some ⟨b, o, none⟩ ∧ b < w.heap.size ∧ ∀ i (hi : i < bs.length), w.cell? ⟨b, o + i, none⟩ = some (.int .u8 bs[i]) ∧ 0 ≤ bs[i] ∧ bs[i] < 256) := by
 have hC : Tryz.prog.cellsOf 5 = 1 := by kernel_rfl
 obtain ⟨s, L, D, rfl, h1, h2, h3, _, h4⟩ := row_open Tryz.underlying39 (by rw [hC]; decide) h (fun _ f (x : Int) => f 0 = some (.int .u8 x) ∧ 0 ≤ x ∧ x < 256) fun cs' n' d p' f hl hf ht => by
  obtain ⟨x, rfl, _, hwf⟩ := DataW.trod_int Tryz.underlying5 ht
  refine ⟨x, hf 0 (by rw [hC]; decide), ?_⟩
  have m0 : IntKind.u8.min = 0 := rfl
  have m1 : IntKind.u8.max = 255 := rfl
  simp [Lit.wf] at hwf
  omega
 rw [hC] at h4
 exact ⟨s, L, rfl, h1, h2, h3, fun h0 => by obtain ⟨b, o, hA, hb, hc⟩ := h4 h0; exact ⟨b, o, hA, hb, fun k hk => by have := hc k hk; simpa using this⟩⟩
set_option maxHeartbeats 4000000 in
theorem open_cert {r : Reach} {b0 : Nat} {v : Value} {d : DataW H} {p : List MemPlace} (hv : Value.okWide Tryz.prog w r b0 38 v) (h : DataW.Trod enc Tryz.prog w base spare held 38 v d p) :
  ∃ (x : Crt) (es ps : List Edg) (vs ixs : List Int) (rs : List (List Spl)) (k : Nat) (nb : Nat → Bool) (mb : Nat → ByteArray) (rows : List (List Int)) (xs : List ByteArray) (ml : List Nat) (ws : List ByteArray) (ts : List Nat), v = .agg x.cells ∧ CrtL w x (rs.map List.length) xs ml ((List.range k).map mb) ws (rows.map List.length) ts ∧ CrtF w x es ps vs ixs rs k nb mb rows ∧
   (∀ ss ∈ rs, ss.length ≤ Rows.uptoBulk d ∧ ∀ z ∈ ss, z.2.flatten.length + z.2.length ≤ Rows.uptoBulk d) ∧ xs.length ≤ x.cw.c ∧ x.cw.c ≤ 9223372036854775807 := by
 obtain ⟨cs, rfl, hsz⟩ := okWide_struct Tryz.underlying38 hv
 obtain ⟨fuel, hf⟩ := h
 obtain ⟨ys, n, _, hy, hl, hlen, hfs⟩ := DataW.trod_struct Tryz.underlying38 hf
 have k1 : Tryz.prog.cellsOf 3 = 1 := by kernel_rfl
 have k2 : Tryz.prog.cellsOf 24 = 3 := by kernel_rfl
 have k3 : Tryz.prog.cellsOf 27 = 2 := by kernel_rfl
 have k4 : Tryz.prog.cellsOf 30 = 2 := by kernel_rfl
 have k5 : Tryz.prog.cellsOf 34 = 6 := by kernel_rfl
 have k6 : Tryz.prog.cellsOf 35 = 1 := by kernel_rfl
 have k7 : Tryz.prog.cellsOf 31 = 1 := by kernel_rfl
 have k8 : Tryz.prog.cellsOf 25 = 1 := by kernel_rfl
 have k9 : Tryz.prog.cellsOf 28 = 1 := by kernel_rfl
 have k10 : Tryz.prog.cellsOf 36 = 1 := by kernel_rfl
 have k11 : Tryz.prog.cellsOf 22 = 1 := by kernel_rfl
 have k12 : Tryz.prog.cellsOf 32 = 1 := by kernel_rfl
 have k0 : Tryz.prog.cellsOf 38 = 19 := by kernel_rfl
 rw [k0] at hl hsz
 obtain ⟨l⟩ := cs
 match l, ys, hsz, hlen, hfs, hy with
 | [c0, c1, c2, c3, c4, c5, c6, c7, c8, c9, c10, c11, c12, c13, c14, c15, c16, c17, c18], [y0, y1, y2, y3, y4, y5, y6, y7, y8, y9], _, _, hfs, hy =>
  have g0 : DataW.trod enc Tryz.prog w base spare held n 3 [c0] = some y0 := by simpa [Value.cells, k1, k2, k3, k4, k5, k6, k7, k8, k9, k10, k11, k12] using hfs 0 _ rfl
  have g1 : DataW.trod enc Tryz.prog w base spare held n 24 [c1, c2, c3] = some y1 := by simpa [Value.cells, k1, k2, k3, k4, k5, k6, k7, k8, k9, k10, k11, k12] using hfs 1 _ rfl
  have g2 : DataW.trod enc Tryz.prog w base spare held n 27 [c4, c5] = some y2 := by simpa [Value.cells, k1, k2, k3, k4, k5, k6, k7, k8, k9, k10, k11, k12] using hfs 2 _ rfl
  have g3 : DataW.trod enc Tryz.prog w base spare held n 30 [c6, c7] = some y3 := by simpa [Value.cells, k1, k2, k3, k4, k5, k6, k7, k8, k9, k10, k11, k12] using hfs 3 _ rfl
  have g4 : DataW.trod enc Tryz.prog w base spare held n 34 [c8, c9, c10, c11, c12, c13] = some y4 := by simpa [Value.cells, k1, k2, k3, k4, k5, k6, k7, k8, k9, k10, k11, k12] using hfs 4 _ rfl
  have g5 : DataW.trod enc Tryz.prog w base spare held n 35 [c14] = some y5 := by simpa [Value.cells, k1, k2, k3, k4, k5, k6, k7, k8, k9, k10, k11, k12] using hfs 5 _ rfl
  have g6 : DataW.trod enc Tryz.prog w base spare held n 31 [c15] = some y6 := by simpa [Value.cells, k1, k2, k3, k4, k5, k6, k7, k8, k9, k10, k11, k12] using hfs 6 _ rfl
  have g7 : DataW.trod enc Tryz.prog w base spare held n 25 [c16] = some y7 := by simpa [Value.cells, k1, k2, k3, k4, k5, k6, k7, k8, k9, k10, k11, k12] using hfs 7 _ rfl
  have g8 : DataW.trod enc Tryz.prog w base spare held n 28 [c17] = some y8 := by simpa [Value.cells, k1, k2, k3, k4, k5, k6, k7, k8, k9, k10, k11, k12] using hfs 8 _ rfl
  have g9 : DataW.trod enc Tryz.prog w base spare held n 36 [c18] = some y9 := by simpa [Value.cells, k1, k2, k3, k4, k5, k6, k7, k8, k9, k10, k11, k12] using hfs 9 _ rfl
  have k14 : 0 < Tryz.prog.cellsOf 55 := by rw [show Tryz.prog.cellsOf 55 = 2 from by kernel_rfl]; decide
  have k15 : 0 < Tryz.prog.cellsOf 3 := by rw [k1]; decide
  obtain ⟨hd, _⟩ := Prod.mk.inj hy
  have hb4 : Rows.uptoBulk y4.1 ≤ Rows.uptoBulk d := by
   rw [hd]
   simp only [List.map_cons, List.map_nil, Rows.uptoBulk, Rows.uptoBulkAll]
   omega
  clear hd hy
  obtain ⟨_, _, _, _, _, _, a1, a2, a3⟩ := trod_struct3 Tryz.underlying24 g1
  obtain ⟨_, _, _, _, _, a4, a5⟩ := trod_struct2 Tryz.underlying27 g2
  obtain ⟨_, _, _, _, _, a6, a7⟩ := trod_struct2 Tryz.underlying30 g3
  obtain ⟨zs, n4, _, hy4, _, hz4, hf4⟩ := DataW.trod_struct Tryz.underlying34 g4
  match zs, hz4, hf4, hy4 with
  | [u0, u1, u2, u3], _, hf4, hy4 =>
   have b0 : DataW.trod enc Tryz.prog w base spare held n4 24 [c8, c9, c10] = some u0 := by simpa [k1, k2, k3, k4, k5, k6, k7, k8, k9, k10, k11, k12] using hf4 0 _ rfl
   have b1 : DataW.trod enc Tryz.prog w base spare held n4 31 [c11] = some u1 := by simpa [k1, k2, k3, k4, k5, k6, k7, k8, k9, k10, k11, k12] using hf4 1 _ rfl
   have b2 : DataW.trod enc Tryz.prog w base spare held n4 3 [c12] = some u2 := by simpa [k1, k2, k3, k4, k5, k6, k7, k8, k9, k10, k11, k12] using hf4 2 _ rfl
   have b3 : DataW.trod enc Tryz.prog w base spare held n4 32 [c13] = some u3 := by simpa [k1, k2, k3, k4, k5, k6, k7, k8, k9, k10, k11, k12] using hf4 3 _ rfl
   have hb3 : Rows.uptoBulk u3.1 ≤ Rows.uptoBulk d := by
    refine Nat.le_trans ?_ hb4
    rw [hy4]
    simp only [List.map_cons, List.map_nil, Rows.uptoBulk, Rows.uptoBulkAll]
    omega
   clear hy4
   obtain ⟨_, _, _, _, _, _, a8, a9, a10⟩ := trod_struct3 Tryz.underlying24 b0
   simp [k1, k2, k3, k4, k5, k6, k7, k8, k9, k10, k11, k12] at a1 a2 a3 a4 a5 a6 a7 a8 a9 a10
   obtain ⟨z0, e0, _⟩ := DataW.trod_int Tryz.underlying3 g0
   obtain ⟨z1, e1, _⟩ := DataW.trod_int Tryz.underlying3 a1
   obtain ⟨z2, e2, _⟩ := DataW.trod_int Tryz.underlying3 a2
   obtain ⟨s3, es, e3, n3, l3, m3, r3⟩ := open_edges a3
   obtain ⟨z4, e4, _⟩ := DataW.trod_int Tryz.underlying3 a4
   obtain ⟨s5, xs, e5, n5, l5, m5, r5⟩ := open_strs a5
   obtain ⟨z6, e6, _⟩ := DataW.trod_int Tryz.underlying3 a6
   obtain ⟨s7, mls, e7, n7, l7, m7, r7, _⟩ := open_introws a7
   obtain ⟨z8, e8, _⟩ := DataW.trod_int Tryz.underlying3 a8
   obtain ⟨z9, e9, _⟩ := DataW.trod_int Tryz.underlying3 a9
   obtain ⟨s10, ps, e10, n10, l10, m10, r10⟩ := open_edges a10
   obtain ⟨s11, vs, e11, n11, l11, m11, r11, _⟩ := open_introw b1
   obtain ⟨z12, e12, _⟩ := DataW.trod_int Tryz.underlying3 b2
   obtain ⟨s13, rs, e13, n13, l13, m13, r13, q13⟩ := open_rounds b3
   obtain ⟨s14, nb, mb, e14, l14, m14, r14⟩ := open_aints g5
   obtain ⟨s15, ixs, e15, n15, l15, m15, r15, _⟩ := open_introw g6
   obtain ⟨s16, ws, e16, n16, l16, m16, r16⟩ := open_strs g7
   obtain ⟨s17, rows, e17, n17, l17, m17, r17, _⟩ := open_introws g8
   obtain ⟨s18, ts, D18, e18, n18, l18, m18, _, r18⟩ := row_open Tryz.underlying36 (by rw [k6]; decide) g9 (fun _ f (x : Nat) => ∃ A c, f 0 = some (.slice A x c)) fun cs' n' d' p' f hl' hf' ht => by
    obtain ⟨⟨A, m, c⟩, _, rfl, _⟩ := sl_open Tryz.underlying35 k14 ht
    exact ⟨m, A, c, hf' 0 (by rw [k6]; decide)⟩
   rw [k6] at r18
   simp only [List.cons.injEq, and_true] at e0 e1 e2 e3 e4 e5 e6 e7 e8 e9 e10 e11 e12 e13 e14 e15 e16 e17 e18
   subst e0 e1 e2 e3 e4 e5 e6 e7 e8 e9 e10 e11 e12 e13 e14 e15 e16 e17 e18
   unfold maxLen at *
   have lenD : ∀ {A : Option Addr} {ds : List (List Int)}, RowD w A ds → LenR w A (ds.map List.length) := by
    intro A ds hD h0
    obtain ⟨b, o, hA, hb, hc⟩ := hD (by simpa using h0)
    refine ⟨b, o, hA, hb, fun k hk => ?_⟩
    obtain ⟨D, c, h1, _⟩ := hc k (by simpa using hk)
    exact ⟨D, c, by rw [List.getElem_map]; exact h1⟩
   refine ⟨⟨z0, z1, z2, s3, z4, s5, z6, s7, z8, z9, s10, s11, z12, s13, s14, s15, s16, s17, s18⟩, es, ps, vs, ixs, rs, s14.n, nb, mb, rows, xs, mls.map List.length, ws, ts, rfl, ?_, ⟨n3, n10, n11, n13, n15, n17, rfl, r3, r10, r11, r13, r15, r17, r14⟩, fun ss hss => ⟨Nat.le_trans (q13 ss hss).1 hb3, fun z hz => Nat.le_trans ((q13 ss hss).2 z hz) hb3⟩, by rw [← n5]; exact l5, by omega⟩
   refine ⟨by rw [List.length_map]; exact n13, ?_, by rw [List.length_map]; omega, n5, r5, by omega, by rw [List.length_map]; exact n7, lenD r7, by rw [List.length_map]; omega, by simp, ?_, by simp; omega, n16, r16, by omega, by rw [List.length_map]; exact n17, lenD r17, by rw [List.length_map]; omega, n18, ?_, by omega, by show s11.n ≤ _; omega, by show s15.n ≤ _; omega⟩
   ·intro h0
    obtain ⟨b, o, hA, hb, hc⟩ := r13 (by simpa using h0)
    refine ⟨b, o, hA, hb, fun k hk => ?_⟩
    obtain ⟨D, c, h1, _⟩ := hc k (by simpa using hk)
    exact ⟨D, c, by rw [List.getElem_map]; exact h1⟩
   ·intro h0
    obtain ⟨b, o, hA, hb, hc⟩ := r14 (by simpa using h0)
    refine ⟨b, o, hA, hb, fun k hk => ?_⟩
    have := (hc k (by simpa using hk)).2
    simpa using this
   ·intro h0
    obtain ⟨b, o, hA, hb, hc⟩ := r18 h0
    refine ⟨b, o, hA, hb, fun k hk => ?_⟩
    obtain ⟨A, c, h1⟩ := hc k hk
    exact ⟨A, c, by simpa using h1⟩
end
end Go.Proofs.YtbnpjoiojhnimaaGreatDoor.Opr
namespace Go.Proofs.YtbnpjoiojhnimaaGreatDoor
open Go.RowKit
def IsB (P : Prop) (e : Ending) : Prop := ∃ b, e = .returned (.bool b) ∧ (b = true ↔ P)
theorem Edg.ext_ {a b : Edg} (h1 : a.f = b.f) (h2 : a.l = b.l) (h3 : a.t = b.t) : a = b := by
 cases a; cases b; simp_all
theorem ed_fields : ∃ f0 f1 f2 : Field, (Tryz.prog.fieldsOf 72).toList = [f0, f1, f2] ∧ (f0.name ≠ "_" ∧ f0.type = 3 ∧ f0.offset = 0) ∧ (f1.name ≠ "_" ∧ f1.type = 3 ∧ f1.offset = 1) ∧ (f2.name ≠ "_" ∧ f2.type = 3 ∧ f2.offset = 2) := by
 have h : (Tryz.prog.fieldsOf 72).toList.map (fun f => (decide (f.name ≠ "_"), f.type, f.offset)) = [(true, 3, 0), (true, 3, 1), (true, 3, 2)] := by kernel_rfl
 match hl : (Tryz.prog.fieldsOf 72).toList with
 | [f0, f1, f2] =>
  rw [hl] at h
  simp at h
  exact ⟨f0, f1, f2, rfl, h.1, h.2.1, h.2.2⟩
 | [] | [_] | [_, _] | _ :: _ :: _ :: _ :: _ => rw [hl] at h; simp at h
theorem ed_eqd (d : Nat) (W : World) (a b : Edg) : (Op.equalIn (d + 1 + 1) 72 (.agg #[.int .i64 a.f, .int .i64 a.l, .int .i64 a.t]) (.agg #[.int .i64 b.f, .int .i64 b.l, .int .i64 b.t])).run Tryz.prog W = .ok (a.f == b.f && (a.l == b.l && a.t == b.t)) W := by
 obtain ⟨f0, f1, f2, hf, ⟨n0, t0, o0⟩, ⟨n1, t1, o1⟩, ⟨n2, t2, o2⟩⟩ := ed_fields
 rw [run_equalIn_agg _ (d + 1) _ _ _ (by kernel_rfl) (by kernel_rfl), hf]
 have hi := Tryz.underlying3
 have ha := Tryz.isAgg3
 have he : ∀ (W : World) (x y : Int), (Op.equalIn (d + 1) 3 (.int .i64 x) (.int .i64 y)).run Tryz.prog W = .ok (x == y) W := fun W x y => run_equalIn_int W d 3 .i64 .i64 x y hi
 have hp : ∀ (W : World) (cs : Array Value) (i : Nat) (v : Value), cs[i]? = some v → (part 3 cs i).run Tryz.prog W = .ok v W := by
  intro W cs i v h
  simp [part, ha, h, Result.andThen]
 have h1 := fun W => hp W #[.int .i64 a.f, .int .i64 a.l, .int .i64 a.t]
 have h2 := fun W => hp W #[.int .i64 b.f, .int .i64 b.l, .int .i64 b.t]
 simp only [Op.eqFields, t0, t1, t2, o0, o1, o2, n0, n1, n2, ne_eq, not_false_eq_true, if_true, Sem.run_bind]
 rw [h1 W 0 (.int .i64 a.f) rfl, Result.andThen_ok, h2 W 0 (.int .i64 b.f) rfl, Result.andThen_ok, he, Result.andThen_ok]
 by_cases e0 : a.f = b.f
 ·rw [show (a.f == b.f) = true by simpa using e0]
  simp only [Bool.not_true, Bool.false_eq_true, if_false, Bool.true_and, Sem.run_bind, Sem.run_ite]
  rw [h1 W 1 (.int .i64 a.l) rfl, Result.andThen_ok, h2 W 1 (.int .i64 b.l) rfl, Result.andThen_ok, he, Result.andThen_ok]
  by_cases e1 : a.l = b.l
  ·rw [show (a.l == b.l) = true by simpa using e1]
   simp only [Bool.not_true, Bool.false_eq_true, if_false, Bool.true_and]
   rw [h1 W 2 (.int .i64 a.t) rfl, Result.andThen_ok, h2 W 2 (.int .i64 b.t) rfl, Result.andThen_ok, he, Result.andThen_ok]
   by_cases e2 : a.t = b.t
   ·rw [show (a.t == b.t) = true by simpa using e2]; rfl
   ·rw [show (a.t == b.t) = false by simpa using e2]; rfl
  ·rw [show (a.l == b.l) = false by simpa using e1]; rfl
 ·rw [show (a.f == b.f) = false by simpa using e0]; rfl
theorem ed_neq (W : World) (a b : Edg) : (binOp .neq 72 (.agg #[.int .i64 a.f, .int .i64 a.l, .int .i64 a.t]) (.agg #[.int .i64 b.f, .int .i64 b.l, .int .i64 b.t])).run Tryz.prog W = .ok (.bool (!(a.f == b.f && (a.l == b.l && a.t == b.t)))) W := by
 rw [run_neq_struct, show (10000 : Nat) = 9998 + 1 + 1 from rfl, ed_eqd]; rfl
set_option maxRecDepth 100000 in
set_option maxHeartbeats 1000000 in
theorem eqEdge_any (xs ys : List Edg) (A A' : Option Addr) (c c' : Nat) (w : World) (h1 : RowE w A xs) (h2 : RowE w A' ys) (hb : xs.length ≤ 4294967296) :
  Calls Tryz.prog 100 #[.slice A xs.length c, .slice A' ys.length c'] w fun e w' => ∃ b, e = .returned (.bool b) ∧ (b = true ↔ xs = ys) ∧ ∃ q, w' = w.drewN q := by
 by_cases hl : xs.length = ys.length
 ·have H1 := hide h1
  have H2 := hide h2
  have HL := hide hl
  rw [← hl]
  clear h1 h2 hl
  have hn : (((xs.length : Int)) != (xs.length : Int)) = false := by simp
  go_enter Tryz.func100, Tryz.ntmps100
  go_wp2
  go_loopw [13] (fun i wr => ∃ k q : Nat, k ≤ xs.length ∧ i = .int .i64 k ∧ Hid (∀ j (hj : j < xs.length) (hj2 : j < ys.length), j < k → xs[j] = ys[j]) ∧ wr = w.drewN q) (fun i _ => xs.length - (intOf i).toNat)
  case atStart => exact ⟨0, 0, Nat.zero_le _, rfl, hide fun j _ _ h => absurd h (by omega), rfl⟩
  case round =>
   obtain ⟨k, q, hk, rfl, hsame, rfl⟩ := hrel
   by_cases hlt : k < xs.length
   ·have hlt2 : k < ys.length := by have := HL.out; omega
    obtain ⟨b1, o1, rfl, _, hc1⟩ := H1.out (by omega)
    obtain ⟨b2, o2, rfl, _, hc2⟩ := H2.out (by omega)
    obtain ⟨c0, c1, c2⟩ := hc1 k hlt
    obtain ⟨d0, d1, d2⟩ := hc2 k hlt2
    obtain ⟨a, ha⟩ : ∃ a, a = xs[k] := ⟨_, rfl⟩
    obtain ⟨b, hb⟩ : ∃ b, b = ys[k] := ⟨_, rfl⟩
    rw [← ha] at c0 c1 c2
    rw [← hb] at d0 d1 d2
    have HA := hide ha
    have HBB := hide hb
    clear ha hb hc1 hc2
    have hk0 : (0 : Int) ≤ (k : Int) := by omega
    have hk1 : (k : Int) < (xs.length : Int) := by omega
    obtain ⟨z, hz⟩ : ∃ z, z = (a.f == b.f && (a.l == b.l && a.t == b.t)) := ⟨_, rfl⟩
    have hq := fun W => ed_neq W a b
    rw [← hz] at hq
    have hg : Tryz.prog.eqGuardType Tryz.prog.depth 72 = false := by kernel_rfl
    have hze : z = true ↔ a = b := by
     rw [hz]
     simp only [Bool.and_eq_true, beq_iff_eq]
     exact ⟨fun ⟨h1, h2, h3⟩ => Edg.ext_ h1 h2 h3, fun h => by subst h; simp⟩
    have HZ := hide hze
    clear hz hze
    go_wp2_with fail
    go_quiet (fail)
    cases z
    ·go_wp2
     go_ret
     refine ⟨false, rfl, ?_, q + nq, by simp⟩
     simp only [Bool.false_eq_true, false_iff]
     intro e
     subst e
     have := HZ.out.2 (by rw [HA.out, HBB.out])
     cases this
    ·go_wp2
     go_roundw
     case rel =>
      refine ⟨k + 1, q + nq, by omega, by go_num, hide fun j hj hj2 hjk => ?_, by simp⟩
      by_cases e : j < k
      ·exact hsame.out j hj hj2 e
      ·obtain rfl : j = k := by omega
       rw [← HA.out, ← HBB.out]; exact HZ.out.1 rfl
     case measure => simp [intOf]; omega
   ·obtain rfl : k = xs.length := by omega
    go_wp2
    go_ret
    refine ⟨true, rfl, ?_, q, rfl⟩
    simp only [true_iff]
    exact List.ext_getElem HL.out fun j h1 h2 => hsame.out j h1 h2 h1
 ·have HE := hide (show ¬ xs = ys by intro e; exact hl (by rw [e]))
  have hne : ((xs.length : Int) != (ys.length : Int)) = true := by rw [bne_iff_ne]; omega
  clear hl h1 h2
  go_enter Tryz.func100, Tryz.ntmps100
  go_wp2
  go_ret
  exact ⟨false, rfl, by simp [HE.out], 0, rfl⟩
set_option maxHeartbeats 1000000 in
theorem grSame_any (L S L' S' : Int) (es es' : List Edg) (A A' : Option Addr) (c c' : Nat) (w : World) (h1 : RowE w A es) (h2 : RowE w A' es') (hb : es.length ≤ 4294967296) :
  Calls Tryz.prog 88 #[.agg #[.int .i64 L, .int .i64 S, .slice A es.length c], .agg #[.int .i64 L', .int .i64 S', .slice A' es'.length c']] w fun e w' => IsB (L = L' ∧ S = S' ∧ es = es') e ∧ Below w.heap.size w w' := by
 have hB0 : Below w.heap.size w ((w.alloc (.cells #[.int .i64 L, .int .i64 S, .slice A es.length c] 24)).alloc (.cells #[.int .i64 L', .int .i64 S', .slice A' es'.length c'] 24)) := ((Below.refl _ w).alloc (Nat.le_refl _) _).alloc (by simp) _
 have HE := hide (fun W (h : Below w.heap.size w W) => eqEdge_any es es' A A' c c' W (h1.below h) (h2.below h) hb)
 have HB := hide hB0
 clear h1 h2 hB0
 obtain ⟨b0, hb0⟩ : ∃ b, (L == L') = b := ⟨_, rfl⟩
 obtain ⟨b1, hb1⟩ : ∃ b, (S == S') = b := ⟨_, rfl⟩
 have e0 : L = L' ↔ b0 = true := by rw [← hb0]; simp
 have e1 : S = S' ↔ b1 = true := by rw [← hb1]; simp
 have E0 := hide e0
 have E1 := hide e1
 clear e0 e1
 cases b0
 ·go_enter Tryz.func88, Tryz.ntmps88
  go_wp2
  go_ret
  exact ⟨⟨false, rfl, by simp [E0.out]⟩, HB.out⟩
 ·cases b1
  ·go_enter Tryz.func88, Tryz.ntmps88
   go_wp2
   go_ret
   exact ⟨⟨false, rfl, by simp [E1.out]⟩, HB.out⟩
  ·go_enter Tryz.func88, Tryz.ntmps88
   go_wp2_with (go_at_call 100; refine (HE.out _ HB.out).mono ?_; rintro e w' ⟨b, rfl, hbb, q, rfl⟩)
   go_ret
   exact ⟨⟨b, rfl, by rw [hbb, E0.out, E1.out]; simp⟩, belowN HB.out q⟩
set_option maxHeartbeats 1000000 in
theorem spApplyf_any (s z : Int) (P : Option Addr) (n p c0 : Nat) (w : World) (hc : w.cell? ⟨c0, 0, none⟩ = some (.int .i64 z)) :
  Calls Tryz.prog 168 #[.agg #[.int .i64 s, .slice P n p], .pointer (some ⟨c0, 0, none⟩)] w fun e w' => e = .returned (.bool (s == z)) ∧ Below w.heap.size w w' := by
 have c1 := (World.cell?_alloc_lt w (.cells #[.int .i64 s, .slice P n p] 148) ⟨c0, 0, none⟩ (World.block_lt_of_cell? _ _ hc)).trans hc
 obtain ⟨x0, x1, _⟩ := at2 (heap_alloc_new w (.cells #[.int .i64 s, .slice P n p] 148))
 have HB := hide (show Below w.heap.size w (w.alloc (.cells #[.int .i64 s, .slice P n p] 148)) from (Below.refl _ _).alloc (Nat.le_refl _) _)
 go_enter Tryz.func168, Tryz.ntmps168
 go_wp2
 go_ret
 exact ⟨rfl, HB.out⟩
def IdxP (ss : List Spl) (s : Int) (e : Ending) : Prop := e = .returned (.int .i64 (-1)) ∨ ∃ k : Nat, ∃ hk : k < ss.length, ss[k].1 = s ∧ e = .returned (.int .i64 k)
set_option maxRecDepth 100000 in
set_option maxHeartbeats 1000000 in
theorem slIfSp_any (s : Int) (ss : List Spl) (R : Option Addr) (q c0 : Nat) (w : World) (hr : RowSp w R ss) (hb : ss.length ≤ 4294967296) (hc : w.cell? ⟨c0, 0, none⟩ = some (.int .i64 s)) :
  Calls Tryz.prog 167 #[.slice R ss.length q, .func (.func 168) #[] #[.pointer (some ⟨c0, 0, none⟩)]] w fun e w' => IdxP ss s e ∧ Below w.heap.size w w' := by
 have hc0 := World.block_lt_of_cell? _ _ hc
 have HR := hide (fun W (h : Below w.heap.size w W) => hr.below h)
 have HF := hide (fun W (h : Below w.heap.size w W) z P n p => spApplyf_any z s P n p c0 W ((h.cell (p := ⟨c0, 0, none⟩) hc0).trans hc))
 clear hr hc hc0
 go_enter Tryz.func167, Tryz.ntmps167
 go_wp2
 go_loopw [8] (fun iv wr => ∃ i : Nat, iv = .int .i64 i ∧ i ≤ ss.length ∧ Hid (Below w.heap.size w wr)) (fun iv _ => ss.length - (intOf iv).toNat)
 case atStart => exact ⟨0, rfl, Nat.zero_le _, hide (Below.refl _ _)⟩
 case round =>
  obtain ⟨i, rfl, hi, HB⟩ := hrel
  by_cases hlt : i < ss.length
  ·obtain ⟨b, o, rfl, hbl, hcell⟩ := HR.out wr HB.out (by omega)
   obtain ⟨c1, P, p, c2, _⟩ := hcell i hlt
   have HS := hide (show ∃ hk : i < ss.length, ss[i].1 = ss[i].1 from ⟨hlt, rfl⟩)
   have HI : Hid (∀ y, y = ss[i] → y.1 = s → IdxP ss s (.returned (.int .i64 i))) := hide fun y e h => .inr ⟨i, hlt, e ▸ h, rfl⟩
   obtain ⟨y, hy⟩ : ∃ y, ss[i] = y := ⟨_, rfl⟩
   have HI2 := hide (HI.out y hy.symm)
   rw [hy] at c1 c2
   obtain ⟨t, ps⟩ := y
   simp only at c1 c2
   have hi0 : (0 : Int) ≤ (i : Int) := by omega
   have hi1 : (i : Int) < (ss.length : Int) := by omega
   have HF2 := hide (HF.out wr HB.out t P ps.length p)
   have hsz := HB.out.size
   clear hcell HS HI hy
   by_cases he : t = s
   ·have hb1 : (t == s) = true := by simp [he]
    have HI3 := hide (HI2.out he)
    rw [hb1] at HF2
    subst he
    clear HI2
    go_wp2_with fail
    refine HF2.out.mono ?_
    rintro e w' ⟨rfl, hB⟩
    have HB2 := hide (HB.out.trans (hB.mono hsz))
    clear hB
    go_wp2
    go_ret
    exact ⟨HI3.out, HB2.out⟩
   ·have hb1 : (t == s) = false := by simp [he]
    rw [hb1] at HF2
    clear HI2
    go_wp2_with fail
    refine HF2.out.mono ?_
    rintro e w' ⟨rfl, hB⟩
    have HB2 := hide (HB.out.trans (hB.mono hsz))
    clear hB
    go_wp2
    go_roundw
    case rel => exact ⟨i + 1, by go_num, hlt, HB2⟩
    case measure => simp [intOf]; omega
  ·obtain rfl : i = ss.length := by omega
   go_wp2
   go_ret
   exact ⟨.inl rfl, HB.out⟩
end Go.Proofs.YtbnpjoiojhnimaaGreatDoor
namespace Go.Proofs.YtbnpjoiojhnimaaGreatDoor
open Go.RowKit Go.Shelf
set_option maxRecDepth 100000 in
set_option maxHeartbeats 4000000 in
theorem ckRefusal_any (x : Crt) (m : Int) (es : List Edg) (A : Option Addr) (c k : Nat) (P : Option Addr) (cv I io ci : Nat) (nb : Nat → Bool) (mb : Nat → ByteArray) (w : World) (hge : x.ge = ⟨A, es.length, c⟩) (hnu : x.nu = ⟨P, k, cv⟩) (hix : x.ix = ⟨some ⟨I, io, none⟩, 1, ci⟩)
  (hr : RowE w A es) (hk : k ≤ 4294967296) (hP : AIs w P k nb mb) (hI : I < w.heap.size) (him : w.cell? ⟨I, io, none⟩ = some (.int .i64 m)) (hs : ∀ i, i < k → (mb i).size ≤ 6000) :
  Calls Tryz.prog 39 #[.agg x.cells] w fun e w' => e = .returned (.bool (okR x.gl x.gs m es k nb mb)) ∧ Below w.heap.size w w' := by
 have HR := hide (fun W (hW : Below w.heap.size w W) => evCheckRefute_any x.gl x.gs m es A c k P cv nb mb W (hr.below hW) hk (hP.below hW) hs)
 obtain ⟨CX, hCX⟩ : ∃ CX, x.cells = CX := ⟨_, rfl⟩
 have hA : Below w.heap.size w (w.alloc (.cells x.cells 38)) := (Below.refl _ w).alloc (Nat.le_refl _) _
 have hN : CrtAt (w.alloc (.cells x.cells 38)) w.heap.size x := heap_alloc_new w _
 have c1 := hN.cell 1
 have c2 := hN.cell 2
 have c3 := hN.cell 3
 have c14 := hN.cell 14
 have c15 := hN.cell 15
 rw [show x.cells[1]? = some (.int .i64 x.gl) from rfl] at c1
 rw [show x.cells[2]? = some (.int .i64 x.gs) from rfl] at c2
 rw [show x.cells[3]? = some x.ge.v from rfl, hge] at c3
 rw [show x.cells[14]? = some x.nu.v from rfl, hnu] at c14
 rw [show x.cells[15]? = some x.ix.v from rfl, hix] at c15
 simp only [Sl.v] at c3 c14 c15
 have hIl : I < (w.alloc (.cells x.cells 38)).heap.size := Nat.lt_of_lt_of_le hI hA.size
 have ci0 := (hA.cell (p := ⟨I, io, none⟩) hI).trans him
 have hsz : (w.alloc (.cells x.cells 38)).heap.size = w.heap.size + 1 := by simp
 obtain ⟨B, hB⟩ : ∃ B, okR x.gl x.gs m es k nb mb = B := ⟨_, rfl⟩
 rw [hB] at HR ⊢
 rw [hCX] at *
 have hgb : Tryz.prog.info? 38 ≠ none := by intro h; have := certSize; rw [h] at this; cases this
 obtain ⟨Z, hZ⟩ : ∃ Z, w.heap.size = Z := ⟨_, rfl⟩
 have HZ := hide hZ
 rw [hZ] at c1 c2 c3 c14 c15 hsz
 clear hr hk hP hI him hs hB hN hge hnu hix hZ
 go_enter Tryz.func39, Tryz.ntmps39
 go_wp2_with fail
 rw [HZ.out]
 generalize w.alloc (Obj.cells CX 38) = W0 at c1 c2 c3 c14 c15 ci0 hsz hA hIl ⊢
 have hZl : Z < W0.heap.size := by omega
 have hSA := hide (show ∀ W1, Below W0.heap.size W0 W1 → (fun W' : World => W'.cell? ⟨Z, 1, none⟩ = some (.int .i64 x.gl) ∧ W'.cell? ⟨Z, 2, none⟩ = some (.int .i64 x.gs) ∧ W'.cell? ⟨Z, 3, none⟩ = some (.slice A es.length c) ∧ W'.cell? ⟨Z, 14, none⟩ = some (.slice P k cv) ∧ W'.cell? ⟨Z, 15, none⟩ = some (.slice (some ⟨I, io, none⟩) 1 ci) ∧ W'.cell? ⟨I, io, none⟩ = some (.int .i64 m)) W1 from fun W1 hW1 => ⟨(hW1.cell (p := ⟨Z, 1, none⟩) hZl).trans c1, (hW1.cell (p := ⟨Z, 2, none⟩) hZl).trans c2, (hW1.cell (p := ⟨Z, 3, none⟩) hZl).trans c3, (hW1.cell (p := ⟨Z, 14, none⟩) hZl).trans c14, (hW1.cell (p := ⟨Z, 15, none⟩) hZl).trans c15, (hW1.cell (p := ⟨I, io, none⟩) hIl).trans ci0⟩)
 have HA := hide hA
 have hAcc : Below W0.heap.size W0 W0.drew := (Below.refl _ _).drew
 clear c1 c2 c3 c14 c15 ci0 hA hsz hIl
 have h01 : (0 : Int) < 1 := by decide
 go_region_held3 (fun W' => W'.cell? ⟨Z, 1, none⟩ = some (.int .i64 x.gl) ∧ W'.cell? ⟨Z, 2, none⟩ = some (.int .i64 x.gs) ∧ W'.cell? ⟨Z, 3, none⟩ = some (.slice A es.length c) ∧ W'.cell? ⟨Z, 14, none⟩ = some (.slice P k cv) ∧ W'.cell? ⟨Z, 15, none⟩ = some (.slice (some ⟨I, io, none⟩) 1 ci) ∧ W'.cell? ⟨I, io, none⟩ = some (.int .i64 m))
  (with_reducible exact hSA.out _ hAcc)
  ((go_at_call 9; (with_reducible refine (HR.out _ (HA.out.trans (hAcc.mono HA.out.size))).mono ?_); rintro en w2 ⟨r, rfl, hr0, hB2⟩; replace hAcc := hAcc.trans (hB2.mono hAcc.size)))
 all_goals (
  have HAcc := hide (HA.out.trans (hAcc.mono HA.out.size))
  have hrr : (r == 0) = B := hr0
  clear hr0 hAcc
  cases B
  ·go_wp2
   go_ret
   exact ⟨rfl, HAcc.out⟩
  ·go_wp2
   go_ret
   exact ⟨rfl, HAcc.out⟩)
end Go.Proofs.YtbnpjoiojhnimaaGreatDoor
