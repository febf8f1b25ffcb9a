/- The memo table of indel.table: the contract of its recursive closure, and of table itself. -/
import Derived.Test.YtijeogengbphdaaWord
import Derived.Test.YtijeogengbphdaaLcs
import Derived.OneCell
import Derived.Laws.MakeOwn
import Derived.Deep.RegionHeld3
set_option linter.unusedVariables false
namespace Go.Proofs.Ytijeogengbphdaa
open Go.RowKit
/-- block g is just the numbers l, not frozen -/
def Nums (w : World) (g : Nat) (l : List Int) : Prop := w.heap[g]? = some (.cells (l.map (Value.int .i64)).toArray 3 (0, 0))
def lcsAt (u v : ByteArray) (i k : Nat) : Nat := lcs (u.data.toList.drop i) (v.data.toList.drop k)
structure Tab (w : World) (B : Nat) (u v : ByteArray) : Prop where
  hu : w.heap[B]? = some (.cells #[.string u] 9 (0, 0))
  hv : w.heap[B + 1]? = some (.cells #[.string v] 9 (0, 0))
  hk : w.heap[B + 3]? = some (.cells #[.slice (some ⟨B + 2, 0, none⟩) ((u.size + 1) * (v.size + 1)) ((u.size + 1) * (v.size + 1))] 104 (0, 0))
  ha : w.heap[B + 4]? = some (.cells #[.func (.func 90) #[] #[.pointer (some ⟨B, 0, none⟩), .pointer (some ⟨B + 1, 0, none⟩), .pointer (some ⟨B + 3, 0, none⟩), .pointer (some ⟨B + 4, 0, none⟩)]] 88 (0, 0))
  hd : ∃ D : List Int, Nums w (B + 2) D ∧ D.length = (u.size + 1) * (v.size + 1) ∧ ∀ i k, i < u.size → k < v.size → D[i * (v.size + 1) + k]? = some 0 ∨ D[i * (v.size + 1) + k]? = some (((lcsAt u v i k : Nat) : Int) + 1)
theorem lcsAt_end {u v : ByteArray} {i k : Nat} (h : i = u.size ∨ k = v.size) : lcsAt u v i k = 0 := by
  unfold lcsAt
  rcases h with rfl | rfl
  · rw [List.drop_of_length_le (by simp), lcs_nil_left]
  · rw [List.drop_of_length_le (l := v.data.toList) (by simp), lcs_nil_right]
theorem lcsAt_same {u v : ByteArray} {i k : Nat} (hi : i < u.size) (hk : k < v.size) (h : u[i] = v[k]) : lcsAt u v i k = 1 + lcsAt u v (i + 1) (k + 1) := by
  unfold lcsAt
  have h1 : i < u.data.toList.length := by simpa using hi
  have h2 : k < v.data.toList.length := by simpa using hk
  rw [List.drop_eq_getElem_cons h1, List.drop_eq_getElem_cons h2, lcs, if_pos]
  exact h
theorem lcsAt_other {u v : ByteArray} {i k : Nat} (hi : i < u.size) (hk : k < v.size) (h : u[i] ≠ v[k]) : lcsAt u v i k = max (lcsAt u v (i + 1) k) (lcsAt u v i (k + 1)) := by
  unfold lcsAt
  have h1 : i < u.data.toList.length := by simpa using hi
  have h2 : k < v.data.toList.length := by simpa using hk
  rw [List.drop_eq_getElem_cons h1, List.drop_eq_getElem_cons h2, lcs, if_neg]
  exact h
theorem tab_lt {a b i k : Nat} (hi : i < a) (hk : k < b) : i * (b + 1) + k < (a + 1) * (b + 1) := by
  have h1 : (i + 1) * (b + 1) ≤ (a + 1) * (b + 1) := Nat.mul_le_mul_right _ (by omega)
  rw [Nat.add_mul] at h1
  omega
theorem tab_inj {b i k i' k' : Nat} (hk : k < b) (hk' : k' < b) (h : i * (b + 1) + k = i' * (b + 1) + k') : i = i' ∧ k = k' := by
  have h1 : (i * (b + 1) + k) / (b + 1) = i := by rw [Nat.mul_comm, Nat.mul_add_div (by omega), Nat.div_eq_of_lt (by omega)]; omega
  have h2 : (i' * (b + 1) + k') / (b + 1) = i' := by rw [Nat.mul_comm, Nat.mul_add_div (by omega), Nat.div_eq_of_lt (by omega)]; omega
  have e : i = i' := by rw [← h1, h, h2]
  subst e
  exact ⟨rfl, by omega⟩
/-- a store of the right number -/
theorem Tab.set_ {w : World} {B : Nat} {u v : ByteArray} (h : Tab w B u v) {i k : Nat} (hi : i < u.size) (hk : k < v.size) {c : Int} (hc : c = ((lcsAt u v i k : Nat) : Int) + 1) :
    Tab (w.setCell ⟨B + 2, i * (v.size + 1) + k, none⟩ (.int .i64 c)) B u v := by
  subst hc
  have hne : ∀ (j : Nat) (o : Obj), j ≠ B + 2 → w.heap[j]? = some o → (w.setCell ⟨B + 2, i * (v.size + 1) + k, none⟩ (.int .i64 (((lcsAt u v i k : Nat) : Int) + 1))).heap[j]? = some o := by
    intro j o hj ho
    simp [World.setCell, Array.getElem?_modify, ho, Ne.symm hj]
  obtain ⟨D, hD, hl, hat⟩ := h.hd
  refine ⟨hne _ _ (by omega) h.hu, hne _ _ (by omega) h.hv, hne _ _ (by omega) h.hk, hne _ _ (by omega) h.ha, D.set (i * (v.size + 1) + k) (((lcsAt u v i k : Nat) : Int) + 1), ?_, by simpa using hl, ?_⟩
  · unfold Nums at hD ⊢
    simp [World.setCell, Array.getElem?_modify, hD, List.map_set]
  · intro i' k' hi' hk'
    by_cases e : i * (v.size + 1) + k = i' * (v.size + 1) + k'
    · obtain ⟨rfl, rfl⟩ := tab_inj hk hk' e
      have := tab_lt hi hk
      refine .inr ?_
      rw [List.getElem?_set_self (by omega)]
    · rw [List.getElem?_set_ne e]
      exact hat i' k' hi' hk'
theorem Tab.cell_ {w : World} {B : Nat} {u v : ByteArray} (h : Tab w B u v) {i k : Nat} (hi : i < u.size) (hk : k < v.size) :
    ∃ x : Value, w.cell? ⟨B + 2, i * (v.size + 1) + k, none⟩ = some x ∧ w.frozen? ⟨B + 2, i * (v.size + 1) + k, none⟩ = false := by
  obtain ⟨D, hD, hl, hat⟩ := h.hd
  have := tab_lt hi hk
  have hj : i * (v.size + 1) + k < D.length := by omega
  refine ⟨.int .i64 D[i * (v.size + 1) + k], ?_, ?_⟩
  · rw [cell_of_row w (B + 2) _ _ 3 (0, 0) hD]
    simp [List.getElem?_eq_getElem hj]
  · unfold Nums at hD; simp [World.frozen?, hD]
/-- what a store and a draw leave -/
theorem Tab.drew {w : World} {B : Nat} {u v : ByteArray} (h : Tab w B u v) : Tab w.drew B u v := ⟨h.hu, h.hv, h.hk, h.ha, h.hd⟩
/-- only block g may have changed -/
structure One (g : Nat) (w w' : World) : Prop where
  os : w'.os = w.os
  tape : w'.tape = w.tape
  output : w'.output = w.output
  size : w'.heap.size = w.heap.size
  block : ∀ k, k ≠ g → w'.heap[k]? = w.heap[k]?
theorem One.refl (g : Nat) (w : World) : One g w w := ⟨rfl, rfl, rfl, rfl, fun _ _ => rfl⟩
theorem One.trans {g : Nat} {a b c : World} (h : One g a b) (k : One g b c) : One g a c := ⟨k.os.trans h.os, k.tape.trans h.tape, k.output.trans h.output, k.size.trans h.size, fun i hi => (k.block i hi).trans (h.block i hi)⟩
theorem One.drew {g : Nat} {a w : World} (h : One g a w) : One g a w.drew := ⟨h.os, h.tape, h.output, h.size, h.block⟩
theorem One.drewN {g : Nat} {a w : World} (h : One g a w) (n : Nat) : One g a (w.drewN n) := ⟨h.os, h.tape, h.output, h.size, h.block⟩
theorem One.setCell {g : Nat} {a w : World} (h : One g a w) {p : Addr} (hp : p.block = g) (u : Value) : One g a (w.setCell p u) :=
  h.trans ⟨rfl, rfl, rfl, by simp [World.setCell], fun k hk => Below.heap_setCell _ _ _ _ (by omega)⟩
theorem One.below {g B : Nat} {w w' : World} (h : One g w w') (hB : B ≤ g) : Below B w w' := ⟨h.os, h.tape, h.output, Nat.le_of_eq h.size.symm, fun k hk => h.block k (by omega)⟩
theorem One.cell {g : Nat} {w w' : World} (h : One g w w') {p : Addr} (hp : p.block ≠ g) : w'.cell? p = w.cell? p := World.cell?_of_block (w := w) (h.block p.block hp)
theorem One.frozen {g : Nat} {w w' : World} (h : One g w w') {p : Addr} (hp : p.block ≠ g) : w'.frozen? p = w.frozen? p := World.frozen?_of_block (w := w) (h.block p.block hp)
theorem Tab.below {w w' : World} {B B' : Nat} {u v : ByteArray} (h : Tab w B u v) (hb : Below B' w w') (hB : B + 5 ≤ B') : Tab w' B u v := by
  obtain ⟨D, h1, h2, h3⟩ := h.hd
  exact ⟨(hb.block _ (by omega)).trans h.hu, (hb.block _ (by omega)).trans h.hv, (hb.block _ (by omega)).trans h.hk, (hb.block _ (by omega)).trans h.ha, D, (hb.block _ (by omega)).trans h1, h2, h3⟩
set_option maxRecDepth 100000 in
set_option maxHeartbeats 2000000 in
theorem tab_at (u v : ByteArray) (hu : u.size ≤ 256) (hv : v.size ≤ 256) (B : Nat) : ∀ (f i k : Nat), i ≤ u.size → k ≤ v.size → (u.size - i) + (v.size - k) ≤ f → ∀ w, Tab w B u v →
    Calls Try.prog 90 #[.int .i64 (i : Int), .int .i64 (k : Int), .pointer (some ⟨B, 0, none⟩), .pointer (some ⟨B + 1, 0, none⟩), .pointer (some ⟨B + 3, 0, none⟩), .pointer (some ⟨B + 4, 0, none⟩)] w
      fun e w' => e = .returned (.int .i64 ((lcsAt u v i k : Nat) : Int)) ∧ Tab w' B u v ∧ One (B + 2) w w' := by
  intro f
  induction f with
  | zero =>
    intro i k hi hk hf w hT
    have cu := cell_of_one hT.hu
    have cv := cell_of_one hT.hv
    have HL := hide (lcsAt_end (u := u) (v := v) (i := i) (k := k) (.inl (by omega)))
    obtain rfl : i = u.size := by omega
    go_enter Try.func90, Try.ntmps90
    go_wp2
    go_ret
    exact ⟨by rw [HL.out]; rfl, hT, One.refl _ _⟩
  | succ f ih =>
    intro i k hi hk hf w hT
    have cu := cell_of_one hT.hu
    have cv := cell_of_one hT.hv
    have ck := cell_of_one hT.hk
    have ca := cell_of_one hT.ha
    by_cases h : i = u.size ∨ k = v.size
    · have HL := hide (lcsAt_end (u := u) (v := v) h)
      by_cases h1 : i = u.size
      · subst h1
        go_enter Try.func90, Try.ntmps90
        go_wp2
        go_ret
        exact ⟨by rw [HL.out]; rfl, hT, One.refl _ _⟩
      · have h2 : k = v.size := by omega
        subst h2
        have h3 : ¬ ((i : Int) = (u.size : Int)) := by omega
        go_enter Try.func90, Try.ntmps90
        go_wp2
        go_ret
        exact ⟨by rw [HL.out]; rfl, hT, One.refl _ _⟩
    · have hi' : i < u.size := by omega
      have hk' : k < v.size := by omega
      clear h
      have h1 : ((i : Int) == (u.size : Int)) = false := by rw [beq_eq_false_iff_ne]; omega
      have h2 : ((k : Int) == (v.size : Int)) = false := by rw [beq_eq_false_iff_ne]; omega
      have hN := tab_lt hi' hk'
      have hN2 : (u.size + 1) * (v.size + 1) ≤ 257 * 257 := Nat.mul_le_mul (by omega) (by omega)
      obtain ⟨D, hD, hDl, hDat⟩ := hT.hd
      obtain ⟨p, hp⟩ : ∃ p, p = i * (v.size + 1) := ⟨_, rfl⟩
      have hpI : (i : Int) * ((v.size : Int) + 1) = (p : Int) := by rw [hp, Int.natCast_mul]; rfl
      have hset := fun (W : World) (hW : Tab W B u v) c => hW.set_ (i := i) (k := k) (c := c) hi' hk'
      have hcell := hDat i k hi' hk'
      rw [← hp] at hN hset hcell
      obtain ⟨N, hNe⟩ : ∃ N, N = (u.size + 1) * (v.size + 1) := ⟨_, rfl⟩
      rw [← hNe] at ck hN hN2 hDl
      have hx0 : (0 : Int) ≤ (p : Int) + (k : Int) := by omega
      have hx1 : (p : Int) + (k : Int) < (N : Int) := by omega
      have hx2 : ((p : Int) + (k : Int)).toNat = p + k := by omega
      have hpk : p + k < N := hN
      have hcl : w.cell? ⟨B + 2, p + k, none⟩ = some (.int .i64 (D.getD (p + k) 0)) := by
        rw [cell_of_row w (B + 2) (p + k) _ 3 (0, 0) hD]
        have : p + k < D.length := by omega
        simp [List.getD, List.getElem?_eq_getElem this]
      have hp' := hide hp
      clear hNe hDat hD hp
      rcases hcell with hc | hc
      · have hz : D.getD (p + k) 0 = 0 := by rw [List.getD, hc]; rfl
        rw [hz] at hcl
        clear hc hz
        have hcs := fun (W : World) (hW : Tab W B u v) => hW.cell_ hi' hk'
        rw [show i * (v.size + 1) = p by rw [hp'.out]] at hcs
        have i0 : (0 : Int) ≤ (i : Int) := by omega
        have i1 : (i : Int) < (u.size : Int) := by omega
        have k0 : (0 : Int) ≤ (k : Int) := by omega
        have k1 : (k : Int) < (v.size : Int) := by omega
        have lb := fun (i k : Nat) => show lcsAt u v i k ≤ 256 by
          unfold lcsAt
          have := lcs_le_left (u.data.toList.drop i) (v.data.toList.drop k)
          simp at this; omega
        by_cases he : u[i] = v[k]
        · have HE := hide (lcsAt_same hi' hk' he)
          have heb : ((u[i].toNat : Int) == (v[k].toNat : Int)) = true := by rw [he]; simp
          have hl := lb (i + 1) (k + 1)
          have C := fun W hW => ih (i + 1) (k + 1) (by omega) (by omega) (by omega) W hW
          obtain ⟨L, hL⟩ : ∃ L, L = lcsAt u v (i + 1) (k + 1) := ⟨_, rfl⟩
          rw [← hL] at C hl HE
          rw [show ((i + 1 : Nat) : Int) = (i : Int) + 1 by omega, show ((k + 1 : Nat) : Int) = (k : Int) + 1 by omega] at C
          have HC := hide C
          have HS := hide hset
          have HCS := hide hcs
          clear C hset hcs ih hL lb
          go_enter Try.func90, Try.ntmps90
          go_wp2_with fail
          go_region
          go_wp2_with (go_at_call 90; refine (HC.out _ hT.drew).mono ?_; rintro e w1 ⟨rfl, hT1, hB1⟩; obtain ⟨x1, hc1, hf1⟩ := HCS.out _ hT1)
          go_ret
          exact ⟨by rw [HE.out]; simp [go_sem]; omega, HS.out _ hT1 _ (by rw [HE.out]; omega), (One.refl _ w).drew.trans (hB1.setCell (p := ⟨B + 2, p + k, none⟩) rfl _)⟩
        · have HE := hide (lcsAt_other hi' hk' he)
          have heb : ((u[i].toNat : Int) == (v[k].toNat : Int)) = false := by
            rw [beq_eq_false_iff_ne]; intro e; apply he
            exact UInt8.toNat_inj.1 (by omega)
          have hl1 := lb (i + 1) k
          have hl2 := lb i (k + 1)
          have C1 := fun W hW => ih (i + 1) k (by omega) (by omega) (by omega) W hW
          have C2 := fun W hW => ih i (k + 1) (by omega) (by omega) (by omega) W hW
          obtain ⟨L1, hL1⟩ : ∃ L, L = lcsAt u v (i + 1) k := ⟨_, rfl⟩
          obtain ⟨L2, hL2⟩ : ∃ L, L = lcsAt u v i (k + 1) := ⟨_, rfl⟩
          rw [← hL1] at C1 hl1 HE
          rw [← hL2] at C2 hl2 HE
          rw [show ((i + 1 : Nat) : Int) = (i : Int) + 1 by omega] at C1
          rw [show ((k + 1 : Nat) : Int) = (k : Int) + 1 by omega] at C2
          have HC1 := hide C1
          have HC2 := hide C2
          have HS := hide hset
          have HCS := hide hcs
          have HT := hide hT
          have hq1 : IntKind.i64.wrap ((i : Int) + 1) = (i : Int) + 1 := IntWalk.i64_in _ (by omega)
          have hq2 : IntKind.i64.wrap ((k : Int) + 1) = (k : Int) + 1 := IntWalk.i64_in _ (by omega)
          clear C1 C2 hset hcs ih hL1 hL2 lb
          go_enter Try.func90, Try.ntmps90
          go_wp2_with fail
          go_region
          go_wp2_with fail
          try clear cu
          try clear cv
          try clear ck
          try clear hcl
          try clear h1
          try clear h2
          try clear hpI
          try clear hx0
          try clear hx1
          try clear hx2
          try clear he
          try clear heb
          try clear hT
          try clear hDl
          try clear hN2
          try clear hN
          try clear hpk
          try clear hf
          obtain ⟨M, hM⟩ : ∃ M, M = max L1 L2 := ⟨_, rfl⟩
          have hMx : (if L1 < L2 then ((L2 : Nat) : Int) else ((L1 : Nat) : Int)) = ((M : Nat) : Int) := by split <;> omega
          have hMw : IntKind.i64.wrap (1 + (M : Int)) = 1 + (M : Int) := IntWalk.i64_in _ (by omega)
          have hM6 : M ≤ 256 := by omega
          have hM1 : IntKind.i64.wrap (1 + (M : Int) - 1) = (M : Int) := by rw [IntWalk.i64_in _ (by omega)]; omega
          have HM := hide hM
          clear hM hl1 hl2
          have tok1 : True := trivial
          have q1 : IntKind.i64.wrap ((i : Int) + 1) = (i : Int) + 1 := hq1
          have q2 : IntKind.i64.wrap ((k : Int) + 1) = (k : Int) + 1 := hq2
          go_region_with (first
            | (have tok := tok1; go_at_call 90; refine (HC1.out _ (by exact ⟨HT.out.hu, HT.out.hv, HT.out.hk, HT.out.ha, HT.out.hd⟩)).mono ?_; rintro e w1 ⟨rfl, hT1, hB1⟩; have ca1 := cell_of_one hT1.ha; clear tok1 tok)
            | (go_at_call 90; go_loud (refine (HC2.out _ hT1).mono ?_; rintro e w2 ⟨rfl, hT2, hB2⟩; obtain ⟨x1, hc1, hf1⟩ := HCS.out _ hT2)))
          all_goals (
            go_wp2
            go_ret
            exact ⟨by rw [HE.out, ← HM.out]; simp [go_sem], HS.out _ hT2 _ (by rw [HE.out, ← HM.out]; omega), ((One.refl _ w).drew.drew.trans (hB1.trans hB2)).setCell (p := ⟨B + 2, p + k, none⟩) rfl _⟩)
      · have hz : D.getD (p + k) 0 = ((lcsAt u v i k : Nat) : Int) + 1 := by rw [List.getD, hc]; rfl
        rw [hz] at hcl
        obtain ⟨L, hL⟩ : ∃ L, L = lcsAt u v i k := ⟨_, rfl⟩
        rw [← hL] at hcl ⊢
        have hL9 : L ≤ 256 := by
          rw [hL]; unfold lcsAt
          have := lcs_le_left (u.data.toList.drop i) (v.data.toList.drop k)
          simp at this; omega
        have hL0 : ((L : Int) + 1 == 0) = false := by rw [beq_eq_false_iff_ne]; omega
        clear hc hz hL hset ih
        go_enter Try.func90, Try.ntmps90
        go_wp2
        go_ret
        exact ⟨rfl, hT, One.refl _ _⟩
end Go.Proofs.Ytijeogengbphdaa
