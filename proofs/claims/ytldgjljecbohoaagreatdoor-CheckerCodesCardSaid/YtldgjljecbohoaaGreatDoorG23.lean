import Derived.Test.YtldgjljecbohoaaGreatDoorG22
import Derived.Test.YtldgjljecbohoaaGreatDoorG5
import Derived.Test.YtldgjljecbohoaaGreatDoorG21
import Derived.WalkKit
import Derived.ProofKit
import Derived.OpenShut
import Derived.ShutString
import Derived.SliceStrings
import Derived.ChangeSlices
import Derived.Deep.Slices
import Derived.Deep.Fields
import Derived.ChangeSame
import Derived.Carry
import Derived.Lib.SmallJoins
import Derived.Test.YtldgjljecbohoaaGreatDoorG14
set_option linter.unusedSimpArgs false
/- Arguments opened: a certificate. -/
set_option linter.unusedVariables false
namespace Go.Proofs.YtldgjljecbohoaaGreatDoor.Open59
open Go.ChangeShapes Go.WideShapes Go.ChangeAt Go.RowKit Go.Deep Go.Joins
theorem list_of {α : Type} {n : Nat} {P : Nat → α → Prop} (h : ∀ i, i < n → ∃ s, P i s) : ∃ L : List α, L.length = n ∧ ∀ i (hi : i < L.length), P i L[i] := by
  induction n with
  | zero => exact ⟨[], rfl, fun i hi => absurd hi (by simp)⟩
  | succ n ih =>
    obtain ⟨L, h1, h2⟩ := ih (fun i hi => h i (by omega))
    obtain ⟨s, hs⟩ := h n (Nat.lt_succ_self n)
    refine ⟨L ++ [s], by simp [h1], fun i hi => ?_⟩
    by_cases hl : i < L.length
    · rw [List.getElem_append_left hl]; exact h2 i hl
    · have : i = L.length := by simp at hi; omega
      subst this
      rw [List.getElem_append_right (Nat.le_refl _)]
      simpa [h1] using hs
section
variable {H : Type} {enc : TypeId × Value → H} {w : World} {base : Nat} {spare : Nat → Bool} {held : Bool}
theorem add_at {b o n : Nat} : (⟨b, o, none⟩ : Addr).add n = ⟨b, o + n, none⟩ := by
  unfold Addr.add
  split
  · rename_i h; subst h; rfl
  · rfl
/-- a slice that reads: its items lie -/
theorem sl_open {t e : TypeId} {n : Nat} {cs : List Value} {y : DataW H × List MemPlace} (ht : Tryz.prog.underlying t = some (.slice e)) (hC : 0 < Tryz.prog.cellsOf e) (h : DataW.trod enc Tryz.prog w base spare held n t cs = some y) :
    ∃ s : Sl, cs = [s.v] ∧ s.n ≤ s.c ∧ s.c ≤ maxLen ∧ (0 < s.n → ∃ b o, s.A = some ⟨b, o, none⟩ ∧ b < w.heap.size ∧ ∀ i, i < s.n → ∃ (cs' : List Value) (n' : Nat) (y' : DataW H × List MemPlace), cs'.length = Tryz.prog.cellsOf e ∧ (∀ j, j < Tryz.prog.cellsOf e → w.cell? ⟨b, o + (i * Tryz.prog.cellsOf e + j), none⟩ = cs'[j]?) ∧ DataW.trod enc Tryz.prog w base spare held n' e cs' = some y') := by
  rcases open_slice ht h with ⟨rfl, _⟩ | ⟨a, len, cap, m, n', D, Pl, rfl, _, hl, hm, hmm, _, hf⟩
  · exact ⟨⟨none, 0, 0⟩, rfl, Nat.le_refl _, Nat.zero_le _, fun hp => absurd hp (by simp)⟩
  · have hle : len ≤ m := by rw [hmm]; split <;> omega
    refine ⟨⟨some a, len, cap⟩, rfl, hl, hm, fun hp => ?_⟩
    obtain ⟨b, o, sp⟩ := a
    have hsp : sp = none ∧ b < w.heap.size := by
      obtain ⟨cs', hc, _⟩ := hf 0 (by show 0 < m; have : 0 < len := hp; omega)
      obtain ⟨_, hcl, hat⟩ := World.cells?_some hc
      have h0 := hat 0 hC
      obtain ⟨v, hv⟩ : ∃ v, cs'[0]? = some v := ⟨_, List.getElem?_eq_getElem (by omega)⟩
      rw [hv] at h0
      refine ⟨by simpa [Addr.add] using World.cell?_spot h0, ?_⟩
      have := World.block_lt_of_cell? w _ h0
      unfold Addr.add at this
      split at this <;> (split at this <;> exact this)
    obtain ⟨rfl, hb⟩ := hsp
    refine ⟨b, o, rfl, hb, fun i hi => ?_⟩
    obtain ⟨cs', hc, ht'⟩ := hf i (by have : i < len := hi; omega)
    obtain ⟨_, hcl, hat⟩ := World.cells?_some hc
    refine ⟨cs', n', _, hcl, fun j hj => ?_, ht'⟩
    have := hat j hj
    rw [add_at, add_at, Nat.add_assoc] at this
    exact this
theorem open_strs {n : Nat} {cs : List Value} {y : DataW H × List MemPlace} (h : DataW.trod enc Tryz.prog w base spare held n 25 cs = some y) :
    ∃ (s : Sl) (ss : List ByteArray), cs = [s.v] ∧ s.n = ss.length ∧ s.n ≤ s.c ∧ s.c ≤ maxLen ∧ RowT w s.A ss := by
  have hC : Tryz.prog.cellsOf 9 = 1 := by kernel_rfl
  obtain ⟨s, rfl, h1, h2, h3⟩ := sl_open Tryz.underlying25 (by rw [hC]; decide) h
  by_cases h0 : 0 < s.n
  · obtain ⟨b, o, hA, hb, hi⟩ := h3 h0
    have : ∀ i, i < s.n → ∃ x : ByteArray, w.cell? ⟨b, o + i, none⟩ = some (.string x) := fun i hin => by
      obtain ⟨cs', n', y', hl, hc, ht⟩ := hi i hin
      rw [hC] at hl hc
      obtain ⟨x, e, _⟩ := DataW.trod_string Tryz.underlying9 ht
      have := hc 0 (by omega)
      rw [e, Nat.mul_one] at this
      exact ⟨x, this⟩
    obtain ⟨L, hL, hP⟩ := list_of this
    exact ⟨s, L, rfl, hL.symm, h1, h2, fun _ => ⟨b, o, hA, hb, fun k hk => hP k hk⟩⟩
  · exact ⟨s, [], rfl, by simp; omega, h1, h2, fun h => absurd h (by simp)⟩
theorem open_introw {n : Nat} {cs : List Value} {y : DataW H × List MemPlace} (h : DataW.trod enc Tryz.prog w base spare held n 31 cs = some y) :
    ∃ (s : Sl) (zs : List Int), cs = [s.v] ∧ s.n = zs.length ∧ s.n ≤ s.c ∧ s.c ≤ maxLen ∧ RowI w s.A zs := by
  have hC : Tryz.prog.cellsOf 3 = 1 := by kernel_rfl
  obtain ⟨s, rfl, h1, h2, h3⟩ := sl_open Tryz.underlying31 (by rw [hC]; decide) h
  by_cases h0 : 0 < s.n
  · obtain ⟨b, o, hA, hb, hi⟩ := h3 h0
    have : ∀ i, i < s.n → ∃ x : Int, w.cell? ⟨b, o + i, none⟩ = some (.int .i64 x) := fun i hin => by
      obtain ⟨cs', n', y', hl, hc, ht⟩ := hi i hin
      rw [hC] at hl hc
      obtain ⟨x, e, _⟩ := DataW.trod_int Tryz.underlying3 ht
      have := hc 0 (by omega)
      rw [e, Nat.mul_one] at this
      exact ⟨x, this⟩
    obtain ⟨L, hL, hP⟩ := list_of this
    exact ⟨s, L, rfl, hL.symm, h1, h2, fun _ => ⟨b, o, hA, hb, fun k hk => hP k hk⟩⟩
  · exact ⟨s, [], rfl, by simp; omega, h1, h2, fun h => absurd h (by simp)⟩
theorem open_introws {n : Nat} {cs : List Value} {y : DataW H × List MemPlace} (h : DataW.trod enc Tryz.prog w base spare held n 28 cs = some y) :
    ∃ (s : Sl) (ds : List (List Int)), cs = [s.v] ∧ s.n = ds.length ∧ s.n ≤ s.c ∧ s.c ≤ maxLen ∧ RowD w s.A ds := by
  have hC : Tryz.prog.cellsOf 31 = 1 := by kernel_rfl
  obtain ⟨s, rfl, h1, h2, h3⟩ := sl_open Tryz.underlying28 (by rw [hC]; decide) h
  by_cases h0 : 0 < s.n
  · obtain ⟨b, o, hA, hb, hi⟩ := h3 h0
    have : ∀ i, i < s.n → ∃ x : List Int, ∃ D c, w.cell? ⟨b, o + i, none⟩ = some (.slice D x.length c) ∧ RowI w D x := fun i hin => by
      obtain ⟨cs', n', y', hl, hc, ht⟩ := hi i hin
      rw [hC] at hl hc
      obtain ⟨⟨A, m, c⟩, zs, e, hn, _, _, hR⟩ := open_introw ht
      have := hc 0 (by omega)
      rw [e, Nat.mul_one] at this
      simp only at hn hR
      subst hn
      exact ⟨zs, A, c, this, hR⟩
    obtain ⟨L, hL, hP⟩ := list_of this
    exact ⟨s, L, rfl, hL.symm, h1, h2, fun _ => ⟨b, o, hA, hb, fun k hk => hP k hk⟩⟩
  · exact ⟨s, [], rfl, by simp; omega, h1, h2, fun h => absurd h (by simp)⟩
/-- rows of rows: how many items each has -/
theorem open_lens {t e e' : TypeId} {n : Nat} {cs : List Value} {y : DataW H × List MemPlace} (ht : Tryz.prog.underlying t = some (.slice e)) (he : Tryz.prog.underlying e = some (.slice e')) (hC : Tryz.prog.cellsOf e = 1) (hC' : 0 < Tryz.prog.cellsOf e') (h : DataW.trod enc Tryz.prog w base spare held n t cs = some y) :
    ∃ (s : Sl) (ls : List Nat), cs = [s.v] ∧ s.n = ls.length ∧ s.n ≤ s.c ∧ s.c ≤ maxLen ∧ LenR w s.A ls := by
  obtain ⟨s, rfl, h1, h2, h3⟩ := sl_open ht (by rw [hC]; decide) h
  by_cases h0 : 0 < s.n
  · obtain ⟨b, o, hA, hb, hi⟩ := h3 h0
    have : ∀ i, i < s.n → ∃ x : Nat, ∃ D c, w.cell? ⟨b, o + i, none⟩ = some (.slice D x c) := fun i hin => by
      obtain ⟨cs', n', y', hl, hc, ht⟩ := hi i hin
      rw [hC] at hl hc
      obtain ⟨⟨A, m, c⟩, e, _⟩ := sl_open he hC' ht
      have := hc 0 (by omega)
      rw [e, Nat.mul_one] at this
      exact ⟨m, A, c, this⟩
    obtain ⟨L, hL, hP⟩ := list_of this
    exact ⟨s, L, rfl, hL.symm, h1, h2, fun _ => ⟨b, o, hA, hb, fun k hk => hP k hk⟩⟩
  · exact ⟨s, [], rfl, by simp; omega, h1, h2, fun h => absurd h (by simp)⟩
set_option maxRecDepth 100000 in
theorem open_mags {n : Nat} {cs : List Value} {y : DataW H × List MemPlace} (h : DataW.trod enc Tryz.prog w base spare held n 35 cs = some y) :
    ∃ (s : Sl) (ms : List ByteArray), cs = [s.v] ∧ s.n = ms.length ∧ s.n ≤ s.c ∧ s.c ≤ maxLen ∧ LenM w s.A ms := by
  have hC : Tryz.prog.cellsOf 48 = 2 := by kernel_rfl
  have hC1 : Tryz.prog.cellsOf 4 = 1 := by kernel_rfl
  have hC2 : Tryz.prog.cellsOf 9 = 1 := by kernel_rfl
  obtain ⟨s, rfl, h1, h2, h3⟩ := sl_open Tryz.underlying35 (by rw [hC]; decide) h
  by_cases h0 : 0 < s.n
  · obtain ⟨b, o, hA, hb, hi⟩ := h3 h0
    have : ∀ i, i < s.n → ∃ x : ByteArray, w.cell? ⟨b, o + i * 2 + 1, none⟩ = some (.string x) := fun i hin => by
      obtain ⟨cs', n', y', hl, hc, ht⟩ := hi i hin
      rw [hC] at hl hc
      obtain ⟨y0, y1, n2, _, _, _, ht1⟩ := trod_struct2 Tryz.underlying48 ht
      obtain ⟨x, e, _⟩ := DataW.trod_string Tryz.underlying9 ht1
      have := hc 1 (by omega)
      match cs', hl with
      | [a0, a1], _ =>
        simp [hC2] at e
        rw [e] at this
        exact ⟨x, by rw [Nat.add_assoc]; exact this⟩
    obtain ⟨L, hL, hP⟩ := list_of this
    exact ⟨s, L, rfl, hL.symm, h1, h2, fun _ => ⟨b, o, hA, hb, fun k hk => hP k hk⟩⟩
  · exact ⟨s, [], rfl, by simp; omega, h1, h2, fun h => absurd h (by simp)⟩
set_option maxRecDepth 100000 in
set_option maxHeartbeats 4000000 in
/-- a certificate that reads: it lies -/
theorem open_cert {r : Reach} {b0 : Nat} {v : Value} {d : DataW H} {p : List MemPlace} (hv : Value.okWide Tryz.prog w r b0 38 v) (h : DataW.Trod enc Tryz.prog w base spare held 38 v d p) :
    ∃ (x : Crt) (rl : List Nat) (xs : List ByteArray) (ml : List Nat) (ms ws : List ByteArray) (rows : List (List Int)) (ts : List Nat), v = .agg x.cells ∧ CrtL w x rl xs ml ms ws (rows.map List.length) ts ∧ RowD w x.ro.A rows ∧ xs.length ≤ x.cw.c ∧ x.cw.c ≤ 9223372036854775807 := by
  obtain ⟨cs, rfl, hsz⟩ := okWide_struct Tryz.underlying38 hv
  obtain ⟨fuel, hf⟩ := h
  obtain ⟨ys, n, _, hy, hl, hlen, hfs⟩ := DataW.trod_struct Tryz.underlying38 hf
  have k1 : Tryz.prog.cellsOf 3 = 1 := by kernel_rfl
  have k2 : Tryz.prog.cellsOf 24 = 3 := by kernel_rfl
  have k3 : Tryz.prog.cellsOf 27 = 2 := by kernel_rfl
  have k4 : Tryz.prog.cellsOf 30 = 2 := by kernel_rfl
  have k5 : Tryz.prog.cellsOf 34 = 6 := by kernel_rfl
  have k6 : Tryz.prog.cellsOf 35 = 1 := by kernel_rfl
  have k7 : Tryz.prog.cellsOf 31 = 1 := by kernel_rfl
  have k8 : Tryz.prog.cellsOf 25 = 1 := by kernel_rfl
  have k9 : Tryz.prog.cellsOf 28 = 1 := by kernel_rfl
  have k10 : Tryz.prog.cellsOf 36 = 1 := by kernel_rfl
  have k11 : Tryz.prog.cellsOf 22 = 1 := by kernel_rfl
  have k12 : Tryz.prog.cellsOf 32 = 1 := by kernel_rfl
  have k0 : Tryz.prog.cellsOf 38 = 19 := by kernel_rfl
  rw [k0] at hl hsz
  obtain ⟨l⟩ := cs
  match l, ys, hsz, hlen, hfs with
  | [c0, c1, c2, c3, c4, c5, c6, c7, c8, c9, c10, c11, c12, c13, c14, c15, c16, c17, c18], [y0, y1, y2, y3, y4, y5, y6, y7, y8, y9], _, _, hfs =>
    have g0 : DataW.trod enc Tryz.prog w base spare held n 3 [c0] = some y0 := by simpa [Value.cells, k1, k2, k3, k4, k5, k6, k7, k8, k9, k10, k11, k12] using hfs 0 _ rfl
    have g1 : DataW.trod enc Tryz.prog w base spare held n 24 [c1, c2, c3] = some y1 := by simpa [Value.cells, k1, k2, k3, k4, k5, k6, k7, k8, k9, k10, k11, k12] using hfs 1 _ rfl
    have g2 : DataW.trod enc Tryz.prog w base spare held n 27 [c4, c5] = some y2 := by simpa [Value.cells, k1, k2, k3, k4, k5, k6, k7, k8, k9, k10, k11, k12] using hfs 2 _ rfl
    have g3 : DataW.trod enc Tryz.prog w base spare held n 30 [c6, c7] = some y3 := by simpa [Value.cells, k1, k2, k3, k4, k5, k6, k7, k8, k9, k10, k11, k12] using hfs 3 _ rfl
    have g4 : DataW.trod enc Tryz.prog w base spare held n 34 [c8, c9, c10, c11, c12, c13] = some y4 := by simpa [Value.cells, k1, k2, k3, k4, k5, k6, k7, k8, k9, k10, k11, k12] using hfs 4 _ rfl
    have g5 : DataW.trod enc Tryz.prog w base spare held n 35 [c14] = some y5 := by simpa [Value.cells, k1, k2, k3, k4, k5, k6, k7, k8, k9, k10, k11, k12] using hfs 5 _ rfl
    have g6 : DataW.trod enc Tryz.prog w base spare held n 31 [c15] = some y6 := by simpa [Value.cells, k1, k2, k3, k4, k5, k6, k7, k8, k9, k10, k11, k12] using hfs 6 _ rfl
    have g7 : DataW.trod enc Tryz.prog w base spare held n 25 [c16] = some y7 := by simpa [Value.cells, k1, k2, k3, k4, k5, k6, k7, k8, k9, k10, k11, k12] using hfs 7 _ rfl
    have g8 : DataW.trod enc Tryz.prog w base spare held n 28 [c17] = some y8 := by simpa [Value.cells, k1, k2, k3, k4, k5, k6, k7, k8, k9, k10, k11, k12] using hfs 8 _ rfl
    have g9 : DataW.trod enc Tryz.prog w base spare held n 36 [c18] = some y9 := by simpa [Value.cells, k1, k2, k3, k4, k5, k6, k7, k8, k9, k10, k11, k12] using hfs 9 _ rfl
    have k13 : 0 < Tryz.prog.cellsOf 79 := by rw [show Tryz.prog.cellsOf 79 = 3 from by kernel_rfl]; decide
    have k14 : 0 < Tryz.prog.cellsOf 48 := by rw [show Tryz.prog.cellsOf 48 = 2 from by kernel_rfl]; decide
    have k15 : 0 < Tryz.prog.cellsOf 3 := by rw [k1]; decide
    have k16 : Tryz.prog.cellsOf 46 = 1 := by kernel_rfl
    have k17 : 0 < Tryz.prog.cellsOf 119 := of_decide_eq_true (by kernel_rfl)
    obtain ⟨_, _, _, _, _, _, a1, a2, a3⟩ := trod_struct3 Tryz.underlying24 g1
    obtain ⟨_, _, _, _, _, a4, a5⟩ := trod_struct2 Tryz.underlying27 g2
    obtain ⟨_, _, _, _, _, a6, a7⟩ := trod_struct2 Tryz.underlying30 g3
    obtain ⟨zs, n4, _, _, _, hz4, hf4⟩ := DataW.trod_struct Tryz.underlying34 g4
    match zs, hz4, hf4 with
    | [u0, u1, u2, u3], _, hf4 =>
      have b0 : DataW.trod enc Tryz.prog w base spare held n4 24 [c8, c9, c10] = some u0 := by simpa [k1, k2, k3, k4, k5, k6, k7, k8, k9, k10, k11, k12] using hf4 0 _ rfl
      have b1 : DataW.trod enc Tryz.prog w base spare held n4 31 [c11] = some u1 := by simpa [k1, k2, k3, k4, k5, k6, k7, k8, k9, k10, k11, k12] using hf4 1 _ rfl
      have b2 : DataW.trod enc Tryz.prog w base spare held n4 3 [c12] = some u2 := by simpa [k1, k2, k3, k4, k5, k6, k7, k8, k9, k10, k11, k12] using hf4 2 _ rfl
      have b3 : DataW.trod enc Tryz.prog w base spare held n4 32 [c13] = some u3 := by simpa [k1, k2, k3, k4, k5, k6, k7, k8, k9, k10, k11, k12] using hf4 3 _ rfl
      obtain ⟨_, _, _, _, _, _, a8, a9, a10⟩ := trod_struct3 Tryz.underlying24 b0
      simp [k1, k2, k3, k4, k5, k6, k7, k8, k9, k10, k11, k12] at a1 a2 a3 a4 a5 a6 a7 a8 a9 a10
      obtain ⟨z0, e0, _⟩ := DataW.trod_int Tryz.underlying3 g0
      obtain ⟨z1, e1, _⟩ := DataW.trod_int Tryz.underlying3 a1
      obtain ⟨z2, e2, _⟩ := DataW.trod_int Tryz.underlying3 a2
      obtain ⟨s3, e3, _⟩ := sl_open Tryz.underlying22 k13 a3
      obtain ⟨z4, e4, _⟩ := DataW.trod_int Tryz.underlying3 a4
      obtain ⟨s5, xs, e5, n5, l5, m5, r5⟩ := open_strs a5
      obtain ⟨z6, e6, _⟩ := DataW.trod_int Tryz.underlying3 a6
      obtain ⟨s7, ml, e7, n7, l7, m7, r7⟩ := open_lens Tryz.underlying28 Tryz.underlying31 k7 k15 a7
      obtain ⟨z8, e8, _⟩ := DataW.trod_int Tryz.underlying3 a8
      obtain ⟨z9, e9, _⟩ := DataW.trod_int Tryz.underlying3 a9
      obtain ⟨s10, e10, _⟩ := sl_open Tryz.underlying22 k13 a10
      obtain ⟨s11, e11, l11, m11, _⟩ := sl_open Tryz.underlying31 k15 b1
      obtain ⟨z12, e12, _⟩ := DataW.trod_int Tryz.underlying3 b2
      obtain ⟨s13, rl, e13, n13, l13, m13, r13⟩ := open_lens Tryz.underlying32 Tryz.underlying46 k16 k17 b3
      obtain ⟨s14, ms, e14, n14, l14, m14, r14⟩ := open_mags g5
      obtain ⟨s15, e15, l15, m15, _⟩ := sl_open Tryz.underlying31 k15 g6
      obtain ⟨s16, ws, e16, n16, l16, m16, r16⟩ := open_strs g7
      obtain ⟨s17, rows, e17, n17, l17, m17, r17⟩ := open_introws g8
      obtain ⟨s18, ts, e18, n18, l18, m18, r18⟩ := open_lens Tryz.underlying36 Tryz.underlying35 k6 k14 g9
      simp only [List.cons.injEq, and_true] at e0 e1 e2 e3 e4 e5 e6 e7 e8 e9 e10 e11 e12 e13 e14 e15 e16 e17 e18
      subst e0 e1 e2 e3 e4 e5 e6 e7 e8 e9 e10 e11 e12 e13 e14 e15 e16 e17 e18
      unfold maxLen at *
      have hM : (1 : Nat) = 1 := rfl
      refine ⟨⟨z0, z1, z2, s3, z4, s5, z6, s7, z8, z9, s10, s11, z12, s13, s14, s15, s16, s17, s18⟩, rl, xs, ml, ms, ws, rows, ts, rfl, ?_, r17, by rw [← n5]; exact l5, by omega⟩
      refine ⟨n13, r13, by omega, n5, r5, by omega, n7, r7, by omega, n14, r14, by omega, n16, r16, by omega, by rw [List.length_map]; exact n17, ?_, by rw [List.length_map]; omega, n18, r18, by omega, by show s11.n ≤ _; omega, by show s15.n ≤ _; omega⟩
      intro h0
      obtain ⟨b, o, hA, hb, hc⟩ := r17 (by simpa using h0)
      refine ⟨b, o, hA, hb, fun k hk => ?_⟩
      obtain ⟨D, c, h1, _⟩ := hc k (by simpa using hk)
      exact ⟨D, c, by rw [List.getElem_map]; exact h1⟩
end
end Go.Proofs.YtldgjljecbohoaaGreatDoor.Open59

/- decodable.firsts and its iterator: their contracts, for every loop body. -/
set_option linter.unusedVariables false
namespace Go.Proofs.YtldgjljecbohoaaGreatDoor
open Go.RowKit Go.Shelf
attribute [local go_sem] Oper.semAt_some
/-- what 'firsts' yields at a pair of words -/
def pf (x y : ByteArray) : List (ByteArray × List UInt8) := if Lib.hasPrefix y.data.toList x.data.toList && !(Lib.trimPrefix y.data.toList x.data.toList).isEmpty then [(y, Lib.trimPrefix y.data.toList x.data.toList)] else []
def frs (xs : List ByteArray) : List (ByteArray × List UInt8) := xs.flatMap fun x => xs.flatMap fun y => pf x y
/-- what has been yielded at a place of the two loops -/
def frsP (xs : List ByteArray) (i j : Nat) : List (ByteArray × List UInt8) := ((xs.take i).flatMap fun x => xs.flatMap fun y => pf x y) ++ (xs.take j).flatMap fun y => pf (xs.getD i ⟨#[]⟩) y
theorem frsP_zero (xs : List ByteArray) : frsP xs 0 0 = [] := by simp [frsP]
theorem frsP_in {xs : List ByteArray} {i j : Nat} (hj : j < xs.length) : frsP xs i (j + 1) = frsP xs i j ++ pf (xs.getD i ⟨#[]⟩) xs[j] := by
  unfold frsP
  rw [List.take_succ_eq_append_getElem hj, List.flatMap_append, List.append_assoc]
  simp
theorem frsP_out {xs : List ByteArray} {i : Nat} (hi : i < xs.length) : frsP xs i xs.length = frsP xs (i + 1) 0 := by
  unfold frsP
  rw [List.take_succ_eq_append_getElem hi, List.flatMap_append, List.take_length]
  simp [hi]
theorem frsP_end (xs : List ByteArray) : frsP xs xs.length 0 = frs xs := by
  unfold frsP frs; simp
theorem fm_pre {α β : Type} (f : α → List β) (l : List α) (k : Nat) : (l.take k).flatMap f <+: l.flatMap f := ⟨(l.drop k).flatMap f, by rw [← List.flatMap_append, List.take_append_drop]⟩
theorem frsP_pre {xs : List ByteArray} {i j : Nat} (hi : i < xs.length) (hj : j ≤ xs.length) : frsP xs i j <+: frs xs := by
  have h2 : frsP xs i j <+: frsP xs i xs.length := by
    unfold frsP
    rw [List.take_length]
    exact (List.prefix_append_right_inj _).2 (fm_pre _ _ _)
  refine h2.trans ?_
  rw [frsP_out hi]
  unfold frsP frs
  simp only [List.take_zero, List.flatMap_nil, List.append_nil]
  exact fm_pre _ _ _
def encF (x : ByteArray × List UInt8) : Array Value := #[.string x.1, .string ⟨x.2.toArray⟩]
set_option maxHeartbeats 1000000 in
theorem firsts_in (q : Int) (A : Option Addr) (n c : Nat) (w : World) :
    Calls Tryz.prog 102 #[.agg #[.int .i64 q, .slice A n c]] w fun e w' => e = .returned (.func (.func 178) #[] #[.pointer (some ⟨w.heap.size, 0, none⟩)]) ∧ w' = w.alloc (.cells #[.int .i64 q, .slice A n c] 27) := by
  go_enter Tryz.func102, Tryz.ntmps102
  go_wp2
  go_ret
  exact ⟨rfl, rfl⟩
set_option maxRecDepth 100000 in
set_option maxHeartbeats 2000000 in
theorem firstsf_in (n : Nat) (hn : 1 ≤ n) (l c0 c B : Nat) (xs : List ByteArray) (A : Option Addr) (hc : xs.length ≤ 4294967296) (Kp : World → World → Prop) (hKr : ∀ W, Kp W W) (hKt : ∀ {X Y Z : World}, Kp X Y → Kp Y Z → Kp X Z) (J Jx : List (ByteArray × List UInt8) → World → Prop) (hJ : AbidesFrom B J)
    (hY : ∀ pre x W, J pre W → pre ++ [x] <+: frs xs → YieldAt Fence.wide (n - 1) Tryz.prog l (encF x) W fun e W' =>
      (e = .returned (.bool true) ∧ J (pre ++ [x]) W' ∧ Kp W W') ∨ (e = .returned (.bool false) ∧ Jx (pre ++ [x]) W'))
    (W : World) (hR : ∀ W', Kp W W' → RowT W' A xs ∧ W'.cell? ⟨c0, 1, none⟩ = some (.slice A xs.length c)) (h0 : J [] W) :
    CallsIn Fence.wide n Tryz.prog 178 #[.func (.yield l) #[] #[], .pointer (some ⟨c0, 0, none⟩)] W fun e W' => (∃ v, e = .returned v) ∧
      ((∃ ys, ys = frs xs ∧ J ys W') ∨ (∃ pre, pre <+: frs xs ∧ Jx pre W')) := by
  have HR := hide hR
  have HY := hide hY
  have HC := hide (fun n s p W => callsIn_wide (n := n).2 (strings_CutPrefix s p W))
  obtain ⟨_, e0⟩ := hR W (hKr W)
  clear hR hY
  refine callsIn_of_wp Tryz.func178 rfl trivial ?_ rfl
  simp only [Tryz.ntmps178, List.size_toArray, List.length_cons, List.length_nil, Nat.reduceAdd, Nat.reduceSub, Array.replicate_succ, Array.replicate_zero, List.push_toArray, List.append_toArray, List.nil_append, List.cons_append]
  gi_wp2
  gi_loopw [12] (fun iv wr => ∃ i : Nat, i ≤ xs.length ∧ iv = .int .i64 i ∧ J (frsP xs i 0) wr ∧ Kp W wr) (fun iv _ => xs.length - (intOf iv).toNat)
  case atStart => exact ⟨0, Nat.zero_le _, rfl, by rw [frsP_zero]; exact h0, hKr _⟩
  case round =>
    obtain ⟨i, hi, rfl, hJs, hnx⟩ := hrel
    clear h0 e0
    by_cases hlt : i < xs.length
    · have hi0 : (0 : Int) ≤ (i : Int) := by omega
      have hi1 : (i : Int) < (xs.length : Int) := by omega
      obtain ⟨hRo, e1⟩ := HR.out wr hnx
      obtain ⟨b, o, hAb, hbl, hcell⟩ := hRo (by omega)
      have e2 := hcell i hlt
      have HX := hide (show xs.getD i ⟨#[]⟩ = xs[i] by simp [hlt])
      obtain ⟨x, hx⟩ : ∃ x, xs[i] = x := ⟨_, rfl⟩
      rw [hx] at e2 HX
      have HAb := hide hAb
      have HJs := hide hJs
      have HNX := hide hnx
      rw [hAb]
      rw [hAb] at e1
      clear hx hRo hcell hJs hnx hAb
      obtain ⟨wr1, rfl⟩ : ∃ wr1, wr1 = wr := ⟨_, rfl⟩
      gi_wp2
      gi_loopw [19] (fun jv wr => ∃ j : Nat, j ≤ xs.length ∧ jv = .int .i64 j ∧ J (frsP xs i j) wr ∧ Kp W wr) (fun jv _ => xs.length - (intOf jv).toNat)
      case atStart => exact ⟨0, Nat.zero_le _, rfl, HJs.out, HNX.out⟩
      case round =>
        obtain ⟨j, hj, rfl, hJs, hnx⟩ := hrel
        clear e1 e2 HJs HNX
        obtain ⟨wr2, rfl⟩ : ∃ wr2, wr2 = wr := ⟨_, rfl⟩
        by_cases hjl : j < xs.length
        · have hj0 : (0 : Int) ≤ (j : Int) := by omega
          have hj1 : (j : Int) < (xs.length : Int) := by omega
          obtain ⟨hRo, e1⟩ := HR.out wr2 hnx
          obtain ⟨b', o', hAb', hbl', hcell⟩ := hRo (by omega)
          have hbo : b' = b ∧ o' = o := by have h := HAb.out.symm.trans hAb'; simp at h; omega
          obtain ⟨rfl, rfl⟩ := hbo
          have e2 := hcell j hjl
          have HIn := hide (frsP_in (xs := xs) (i := i) hjl)
          obtain ⟨y, hy⟩ : ∃ y, xs[j] = y := ⟨_, rfl⟩
          rw [hy] at e2 HIn
          rw [HX.out] at HIn
          have HJs := hide hJs
          have HNX := hide hnx
          clear hy hRo hcell hJs hnx hAb' e1
          have HPf := hide (show pf x y = if Lib.hasPrefix y.data.toList x.data.toList && !(Lib.trimPrefix y.data.toList x.data.toList).isEmpty then [(y, Lib.trimPrefix y.data.toList x.data.toList)] else [] from rfl)
          have HCx := hide (HC.out (n - 1) y x wr2)
          have HLe := hide ((frsP_pre hlt (Nat.succ_le_of_lt hjl)).length_le)
          have HPre := hide (frsP_pre hlt (Nat.succ_le_of_lt hjl))
          obtain ⟨hp, hhp⟩ : ∃ hp, Lib.hasPrefix y.data.toList x.data.toList = hp := ⟨_, rfl⟩
          obtain ⟨tr, htr⟩ : ∃ tr, Lib.trimPrefix y.data.toList x.data.toList = tr := ⟨_, rfl⟩
          rw [hhp, htr] at HPf HCx
          clear hhp htr
          gi_wp2_with fail
          refine ⟨trivial, ?_⟩
          (with_reducible refine HCx.out.mono ?_)
          rintro e W3 ⟨rfl, rfl⟩
          cases hp with
          | false =>
            have HIn2 := hide (show frsP xs i (j + 1) = frsP xs i j by rw [HIn.out, HPf.out]; simp)
            clear HPf HCx HLe HPre HIn
            gi_wp2
            (repeat (refine ⟨(fun _ h => nomatch h), ?_⟩; gi_wp2))
            go_roundw
            case rel => exact ⟨j + 1, hjl, by go_num, by rw [HIn2.out]; exact HJs.out, HNX.out⟩
            case measure => simp [intOf]; omega
          | true =>
            cases tr with
            | nil =>
              have HIn2 := hide (show frsP xs i (j + 1) = frsP xs i j by rw [HIn.out, HPf.out]; simp)
              clear HPf HCx HLe HPre HIn
              gi_wp2
              (repeat (refine ⟨(fun _ h => nomatch h), ?_⟩; gi_wp2))
              go_roundw
              case rel => exact ⟨j + 1, hjl, by go_num, by rw [HIn2.out]; exact HJs.out, HNX.out⟩
              case measure => simp [intOf]; omega
            | cons u tr =>
              have hIn2 : frsP xs i (j + 1) = frsP xs i j ++ [(y, u :: tr)] := by rw [HIn.out, HPf.out]; simp
              have hY2 := HY.out (frsP xs i j) (y, u :: tr) W3 HJs.out (by have h := HPre.out; rw [hIn2] at h; exact h)
              rw [← hIn2] at hY2
              simp only [encF] at hY2
              obtain ⟨fn, tmps, assign, body, hy, hR⟩ := hY2
              have hne : ((⟨(u :: tr).toArray⟩ : ByteArray).toList == (⟨#[]⟩ : ByteArray).toList) = false := by
                rw [ByteArray.toList_eq, ByteArray.toList_eq]; rfl
              clear HPf HCx HLe HIn hIn2 HJs
              gi_wp2
              refine hR.mono ?_
              rintro e W4 (⟨rfl, hJ3, hk3⟩ | ⟨rfl, hJx3⟩)
              · gi_wp2
                go_roundw
                case rel => exact ⟨j + 1, hjl, by go_num, hJ3, hKt HNX.out hk3⟩
                case measure => simp [intOf]; omega
              · gi_wp2
                refine bodyPost_ret (results_none rfl _ _ _) rfl ?_
                exact ⟨⟨_, rfl⟩, .inr ⟨_, HPre.out, hJx3⟩⟩
        · obtain rfl : j = xs.length := by omega
          have HJ2 := hide (show J (frsP xs (i + 1) 0) wr2 by rw [← frsP_out hlt]; exact hJs)
          have HNX := hide hnx
          clear hJs hnx
          gi_wp2
          go_roundw
          case rel => exact ⟨i + 1, hlt, by go_num, HJ2.out, HNX.out⟩
          case measure => simp [intOf]; omega
    · obtain rfl : i = xs.length := by omega
      gi_wp2
      go_end0
      exact ⟨⟨_, rfl⟩, .inl ⟨_, rfl, by rw [frsP_end] at hJs; exact hJs⟩⟩
/-- the yields as a type: the loop's body may know where they come from -/
abbrev FrsT (xs : List ByteArray) := { x : ByteArray × List UInt8 // x ∈ frs xs }
theorem firstsf_stops (n : Nat) (hn : 1 ≤ n) (c0 c : Nat) (xs : List ByteArray) (A : Option Addr) (hc : xs.length ≤ 4294967296) (Kp : World → World → Prop) (hKr : ∀ W, Kp W W) (hKt : ∀ {X Y Z : World}, Kp X Y → Kp Y Z → Kp X Z) (w : World)
    (hR : ∀ W W', Below w.heap.size w W → Kp W W' → RowT W' A xs ∧ W'.cell? ⟨c0, 1, none⟩ = some (.slice A xs.length c)) :
    SeqStopsK Fence.wide n Tryz.prog 178 #[.pointer (some ⟨c0, 0, none⟩)] (fun x : FrsT xs => encF x.1) Kp (fun ys => ys.map Subtype.val = frs xs) (fun pre => pre.map Subtype.val <+: frs xs) (frs xs).length w := by
  intro l J Jx W hW hJ _ hY h0
  refine (firstsf_in n hn l c0 c W.heap.size xs A hc Kp hKr hKt (fun pre W => ∃ p : List (FrsT xs), p.map Subtype.val = pre ∧ J p W) (fun pre W => ∃ p : List (FrsT xs), p.map Subtype.val = pre ∧ Jx p W)
    (fun s A B row ⟨p, e, h⟩ hg hr => ⟨p, e, hJ p A B row h hg hr⟩) ?_ W (fun W' hW' => hR W W' hW hW') ⟨[], rfl, h0⟩).mono ?_
  · rintro pre x W1 ⟨p, rfl, h⟩ hp
    have hx : x ∈ frs xs := hp.subset (by simp)
    have hl := hp.length_le
    simp at hl
    refine (hY p ⟨x, hx⟩ W1 h (by omega)).mono ?_
    rintro e W' (⟨h1, h2, h3⟩ | ⟨h1, h2⟩)
    · exact .inl ⟨h1, ⟨_, by simp, h2⟩, h3⟩
    · exact .inr ⟨h1, ⟨_, by simp, h2⟩⟩
  · rintro e W' ⟨h1, ⟨ys, rfl, p, h2, h3⟩ | ⟨pre, h2, p, rfl, h3⟩⟩
    · exact ⟨h1, .inl ⟨p, h2, h3⟩⟩
    · exact ⟨h1, .inr ⟨p, h2, h3⟩⟩
end Go.Proofs.YtldgjljecbohoaaGreatDoor

/- decodable.nexts and its iterator: their contracts, for every loop body. -/
set_option linter.unusedVariables false
namespace Go.Proofs.YtldgjljecbohoaaGreatDoor
open Go.RowKit Go.Shelf
attribute [local go_sem] Oper.semAt_some
/-- what 'nexts' yields at a word -/
def nx (r x : ByteArray) : List (List UInt8 × Nat) := if Lib.hasPrefix r.data.toList x.data.toList then [(Lib.trimPrefix r.data.toList x.data.toList, 0)] else if Lib.hasPrefix x.data.toList r.data.toList then [(Lib.trimPrefix x.data.toList r.data.toList, (Lib.trimPrefix x.data.toList r.data.toList).length)] else []
def nxs (xs : List ByteArray) (r : ByteArray) : List (List UInt8 × Nat) := xs.flatMap fun x => nx r x
def nxsP (xs : List ByteArray) (r : ByteArray) (i : Nat) : List (List UInt8 × Nat) := (xs.take i).flatMap fun x => nx r x
theorem nxsP_succ {xs : List ByteArray} {r : ByteArray} {i : Nat} (hi : i < xs.length) : nxsP xs r (i + 1) = nxsP xs r i ++ nx r xs[i] := by
  unfold nxsP
  rw [List.take_succ_eq_append_getElem hi, List.flatMap_append]
  simp
theorem nxsP_end (xs : List ByteArray) (r : ByteArray) : nxsP xs r xs.length = nxs xs r := by unfold nxsP nxs; rw [List.take_length]
theorem nxsP_pre (xs : List ByteArray) (r : ByteArray) (i : Nat) : nxsP xs r i <+: nxs xs r := fm_pre _ _ _
def encN (x : List UInt8 × Nat) : Array Value := #[.string ⟨x.1.toArray⟩, .int .i64 (x.2 : Int)]
set_option maxHeartbeats 1000000 in
theorem nexts_in (q : Int) (A : Option Addr) (n c : Nat) (r : ByteArray) (w : World) :
    Calls Tryz.prog 103 #[.agg #[.int .i64 q, .slice A n c], .string r] w fun e w' => e = .returned (.func (.func 180) #[] #[.pointer (some ⟨w.heap.size, 0, none⟩), .pointer (some ⟨w.heap.size + 1, 0, none⟩)]) ∧ w' = (w.alloc (.cells #[.int .i64 q, .slice A n c] 27)).alloc (.cells #[.string r] 9) := by
  go_enter Tryz.func103, Tryz.ntmps103
  go_wp2
  go_ret
  exact ⟨rfl, rfl⟩
set_option maxRecDepth 100000 in
set_option maxHeartbeats 4000000 in
theorem nextsf_in (n : Nat) (hn : 1 ≤ n) (l c0 c1 c B : Nat) (xs : List ByteArray) (r : ByteArray) (A : Option Addr) (hc : xs.length ≤ 4294967296) (Kp : World → World → Prop) (hKr : ∀ W, Kp W W) (hKt : ∀ {X Y Z : World}, Kp X Y → Kp Y Z → Kp X Z) (J Jx : List (List UInt8 × Nat) → World → Prop) (hJ : AbidesFrom B J)
    (hY : ∀ pre x W, J pre W → pre ++ [x] <+: nxs xs r → YieldAt Fence.wide (n - 1) Tryz.prog l (encN x) W fun e W' =>
      (e = .returned (.bool true) ∧ J (pre ++ [x]) W' ∧ Kp W W') ∨ (e = .returned (.bool false) ∧ Jx (pre ++ [x]) W'))
    (W : World) (hR : ∀ W', Kp W W' → RowT W' A xs ∧ W'.cell? ⟨c0, 1, none⟩ = some (.slice A xs.length c) ∧ W'.cell? ⟨c1, 0, none⟩ = some (.string r)) (h0 : J [] W) :
    CallsIn Fence.wide n Tryz.prog 180 #[.func (.yield l) #[] #[], .pointer (some ⟨c0, 0, none⟩), .pointer (some ⟨c1, 0, none⟩)] W fun e W' => (∃ v, e = .returned v) ∧
      ((∃ ys, ys = nxs xs r ∧ J ys W') ∨ (∃ pre, pre <+: nxs xs r ∧ Jx pre W')) := by
  have hz0 : ((0 : Nat) : Int) = 0 := rfl
  have HR := hide hR
  have HY := hide hY
  have HC := hide (fun n s p W => callsIn_wide (n := n).2 (strings_CutPrefix s p W))
  obtain ⟨_, e0, _⟩ := hR W (hKr W)
  clear hR hY
  refine callsIn_of_wp Tryz.func180 rfl trivial ?_ rfl
  simp only [Tryz.ntmps180, List.size_toArray, List.length_cons, List.length_nil, Nat.reduceAdd, Nat.reduceSub, Array.replicate_succ, Array.replicate_zero, List.push_toArray, List.append_toArray, List.nil_append, List.cons_append]
  gi_wp2
  gi_loopw [13] (fun iv wr => ∃ i : Nat, i ≤ xs.length ∧ iv = .int .i64 i ∧ J (nxsP xs r i) wr ∧ Kp W wr) (fun iv _ => xs.length - (intOf iv).toNat)
  case atStart => exact ⟨0, Nat.zero_le _, rfl, by rw [show nxsP xs r 0 = [] from rfl]; exact h0, hKr _⟩
  case round =>
    obtain ⟨i, hi, rfl, hJs, hnx⟩ := hrel
    clear h0 e0
    by_cases hlt : i < xs.length
    · have hi0 : (0 : Int) ≤ (i : Int) := by omega
      have hi1 : (i : Int) < (xs.length : Int) := by omega
      obtain ⟨hRo, e1, e3⟩ := HR.out wr hnx
      obtain ⟨b, o, hAb, hbl, hcell⟩ := hRo (by omega)
      have e2 := hcell i hlt
      have HIn := hide (nxsP_succ (r := r) hlt)
      have HLe := hide ((nxsP_pre xs r (i + 1)).length_le)
      have HPre := hide (nxsP_pre xs r (i + 1))
      obtain ⟨x, hx⟩ : ∃ x, xs[i] = x := ⟨_, rfl⟩
      rw [hx] at e2 HIn
      have HJs := hide hJs
      have HNX := hide hnx
      rw [hAb]
      clear hx hRo hcell hJs hnx hAb e1
      obtain ⟨wr1, rfl⟩ : ∃ wr1, wr1 = wr := ⟨_, rfl⟩
      have HNx := hide (show nx r x = if Lib.hasPrefix r.data.toList x.data.toList then [(Lib.trimPrefix r.data.toList x.data.toList, 0)] else if Lib.hasPrefix x.data.toList r.data.toList then [(Lib.trimPrefix x.data.toList r.data.toList, (Lib.trimPrefix x.data.toList r.data.toList).length)] else [] from rfl)
      have HC1 := hide (HC.out (n - 1) r x wr1)
      have HC2 := hide (HC.out (n - 1) x r wr1)
      obtain ⟨hp, hhp⟩ : ∃ hp, Lib.hasPrefix r.data.toList x.data.toList = hp := ⟨_, rfl⟩
      obtain ⟨tr, htr⟩ : ∃ tr, Lib.trimPrefix r.data.toList x.data.toList = tr := ⟨_, rfl⟩
      obtain ⟨hp2, hhp2⟩ : ∃ hp2, Lib.hasPrefix x.data.toList r.data.toList = hp2 := ⟨_, rfl⟩
      obtain ⟨tr2, htr2⟩ : ∃ tr2, Lib.trimPrefix x.data.toList r.data.toList = tr2 := ⟨_, rfl⟩
      rw [hhp, htr, hhp2, htr2] at HNx
      rw [hhp, htr] at HC1
      rw [hhp2, htr2] at HC2
      clear hhp htr hhp2 htr2
      gi_wp2_with fail
      refine ⟨trivial, ?_⟩
      (with_reducible refine HC1.out.mono ?_)
      rintro e W3 ⟨rfl, rfl⟩
      cases hp with
      | true =>
        have hIn2 : nxsP xs r (i + 1) = nxsP xs r i ++ [(tr, 0)] := by rw [HIn.out, HNx.out]; simp
        have hY2 := HY.out (nxsP xs r i) (tr, 0) W3 HJs.out (by have h := HPre.out; rw [hIn2] at h; exact h)
        rw [← hIn2] at hY2
        simp only [encN, hz0] at hY2
        obtain ⟨fn, tmps, assign, body, hy, hR⟩ := hY2
        clear HNx HC1 HC2 HLe HIn hIn2 HJs
        gi_wp2
        refine hR.mono ?_
        rintro e W4 (⟨rfl, hJ3, hk3⟩ | ⟨rfl, hJx3⟩)
        · gi_wp2
          (repeat (refine ⟨(fun _ h => nomatch h), ?_⟩; gi_wp2))
          go_roundw
          case rel => exact ⟨i + 1, hlt, by go_num, hJ3, hKt HNX.out hk3⟩
          case measure => simp [intOf]; omega
        · gi_wp2
          refine bodyPost_ret (results_none rfl _ _ _) rfl ?_
          exact ⟨⟨_, rfl⟩, .inr ⟨_, HPre.out, hJx3⟩⟩
      | false =>
        gi_wp2_with fail
        refine ⟨trivial, ?_⟩
        (with_reducible refine HC2.out.mono ?_)
        rintro e W3 ⟨rfl, rfl⟩
        cases hp2 with
        | true =>
          have hIn2 : nxsP xs r (i + 1) = nxsP xs r i ++ [(tr2, tr2.length)] := by rw [HIn.out, HNx.out]; simp
          have hY2 := HY.out (nxsP xs r i) (tr2, tr2.length) W3 HJs.out (by have h := HPre.out; rw [hIn2] at h; exact h)
          rw [← hIn2] at hY2
          simp only [encN, hz0] at hY2
          obtain ⟨fn, tmps, assign, body, hy, hR⟩ := hY2
          clear HNx HC1 HC2 HLe HIn hIn2 HJs
          gi_wp2
          refine hR.mono ?_
          rintro e W4 (⟨rfl, hJ3, hk3⟩ | ⟨rfl, hJx3⟩)
          · gi_wp2
            (repeat (refine ⟨(fun _ h => nomatch h), ?_⟩; gi_wp2))
            go_roundw
            case rel => exact ⟨i + 1, hlt, by go_num, hJ3, hKt HNX.out hk3⟩
            case measure => simp [intOf]; omega
          · gi_wp2
            refine bodyPost_ret (results_none rfl _ _ _) rfl ?_
            exact ⟨⟨_, rfl⟩, .inr ⟨_, HPre.out, hJx3⟩⟩
        | false =>
          have HIn2 := hide (show nxsP xs r (i + 1) = nxsP xs r i by rw [HIn.out, HNx.out]; simp)
          clear HNx HC1 HC2 HLe HPre HIn
          gi_wp2
          (repeat (refine ⟨(fun _ h => nomatch h), ?_⟩; gi_wp2))
          go_roundw
          case rel => exact ⟨i + 1, hlt, by go_num, by rw [HIn2.out]; exact HJs.out, HNX.out⟩
          case measure => simp [intOf]; omega
    · obtain rfl : i = xs.length := by omega
      gi_wp2
      go_end0
      exact ⟨⟨_, rfl⟩, .inl ⟨_, rfl, by rw [nxsP_end] at hJs; exact hJs⟩⟩
abbrev NxsT (xs : List ByteArray) (r : ByteArray) := { x : List UInt8 × Nat // x ∈ nxs xs r }
theorem nextsf_stops (n : Nat) (hn : 1 ≤ n) (c0 c1 c : Nat) (xs : List ByteArray) (r : ByteArray) (A : Option Addr) (hc : xs.length ≤ 4294967296) (Kp : World → World → Prop) (hKr : ∀ W, Kp W W) (hKt : ∀ {X Y Z : World}, Kp X Y → Kp Y Z → Kp X Z) (w : World)
    (hR : ∀ W W', Below w.heap.size w W → Kp W W' → RowT W' A xs ∧ W'.cell? ⟨c0, 1, none⟩ = some (.slice A xs.length c) ∧ W'.cell? ⟨c1, 0, none⟩ = some (.string r)) :
    SeqStopsK Fence.wide n Tryz.prog 180 #[.pointer (some ⟨c0, 0, none⟩), .pointer (some ⟨c1, 0, none⟩)] (fun x : NxsT xs r => encN x.1) Kp (fun ys => ys.map Subtype.val = nxs xs r) (fun pre => pre.map Subtype.val <+: nxs xs r) (nxs xs r).length w := by
  intro l J Jx W hW hJ _ hY h0
  refine (nextsf_in n hn l c0 c1 c W.heap.size xs r A hc Kp hKr hKt (fun pre W => ∃ p : List (NxsT xs r), p.map Subtype.val = pre ∧ J p W) (fun pre W => ∃ p : List (NxsT xs r), p.map Subtype.val = pre ∧ Jx p W)
    (fun s A B row ⟨p, e, h⟩ hg hr => ⟨p, e, hJ p A B row h hg hr⟩) ?_ W (fun W' hW' => hR W W' hW hW') ⟨[], rfl, h0⟩).mono ?_
  · rintro pre x W1 ⟨p, rfl, h⟩ hp
    have hx : x ∈ nxs xs r := hp.subset (by simp)
    have hl := hp.length_le
    simp at hl
    refine (hY p ⟨x, hx⟩ W1 h (by omega)).mono ?_
    rintro e W' (⟨h1, h2, h3⟩ | ⟨h1, h2⟩)
    · exact .inl ⟨h1, ⟨_, by simp, h2⟩, h3⟩
    · exact .inr ⟨h1, ⟨_, by simp, h2⟩⟩
  · rintro e W' ⟨h1, ⟨ys, rfl, p, h2, h3⟩ | ⟨pre, h2, p, rfl, h3⟩⟩
    · exact ⟨h1, .inl ⟨p, h2, h3⟩⟩
    · exact ⟨h1, .inr ⟨p, h2, h3⟩⟩
end Go.Proofs.YtldgjljecbohoaaGreatDoor
