/- Plain: the least reset word of n states has at most (n^3 - n) / 6 letters. -/
import Derived.Test.YtmokccidpnpimaaDoorGreP
import Derived.Test.YtmokccidpnpimaaDoorTriP
set_option linter.unusedVariables false
namespace Go.Proofs.YtmokccidpnpimaaDoor
theorem inj_crd {rows : List (List Int)} {L T : Nat} (hA : Aut rows L) (hT : T < 2 ^ rows.length) {l : List UInt8} (hl : OkW L l) (h : crd (led rows T l) < crd T) : ∃ p q, p ≠ q ∧ T.testBit p = true ∧ T.testBit q = true ∧ dl rows p l = dl rows q l := by
  refine Classical.byContradiction fun hn => ?_
  have h1 := sub_len ((stsK T 6).map fun s => dl rows s l) (stsK (led rows T l) 6) (by
    unfold List.Nodup
    rw [List.pairwise_map]
    exact (stsK_nodup T 6).imp_of_mem fun {a b} ha hb hab e => hn ⟨a, b, hab, (stsK_mem.1 ha).2, (stsK_mem.1 hb).2, e⟩) fun x hx => by
    obtain ⟨s, hs, rfl⟩ := List.mem_map.1 hx
    have hb := (stsK_mem.1 hs).2
    exact hA.bit6 (hA.led_lt hT hl) ((led_bit hA hT hl).2 ⟨s, bit_lt hT hb, hb, rfl⟩)
  rw [List.length_map] at h1
  unfold crd at h
  omega
theorem off_len : ∀ n, n < 7 → ∀ S, S < 2 ^ n → ((List.range n).filter fun t => !S.testBit t).length = n - crd S ∧ crd S ≤ n := by decide +kernel
theorem crd_sgl : ∀ S, S < 64 → 0 < S → sglB S = false → 2 ≤ crd S := by decide +kernel
theorem shrink {rows : List (List Int)} {L S : Nat} (hA : Aut rows L) (hp : ∀ s t, s < rows.length → t < rows.length → (first rows L (2 ^ s ||| 2 ^ t)).2 = true) (hS : S < 2 ^ rows.length) (h0 : 0 < S) (hs : sglB S = false) :
    ∃ u, OkW L u ∧ crd (led rows S u) < crd S ∧ 2 * u.length ≤ (rows.length - crd S + 1) * (rows.length - crd S + 2) := by
  obtain ⟨f1, f2, f3, f4⟩ := fab S (Nat.lt_of_lt_of_le hS hA.pow) h0 hs
  have hn7 : rows.length < 7 := by have := hA.n6; omega
  have h1 := first_from hA.L16 (hp _ _ (bit_lt hS f3) (bit_lt hS f4))
  have h2 := crd_lt hA hS h1.1 f3 f4 (by omega) ((pair_led hA (bit_lt hS f3) (bit_lt hS f4) h1.1).1 h1.2)
  obtain ⟨m, _, ⟨u, hu, hm, hc⟩, hmin⟩ := Tri.least_of (P := fun m => ∃ u, OkW L u ∧ u.length = m ∧ crd (led rows S u) < crd S) _ ⟨_, Nat.lt_succ_self _, _, h1.1, rfl, h2⟩
  refine ⟨u, hu, hc, ?_⟩
  have hut : ∀ i, OkW L (u.take i) := fun i b hb => hu b (List.mem_of_mem_take hb)
  have hud : ∀ i, OkW L (u.drop i) := fun i b hb => hu b (List.mem_of_mem_drop hb)
  have hT : ∀ i, led rows S (u.take i) < 2 ^ rows.length := fun i => hA.led_lt hS (hut i)
  have hk : ∀ i, i < m → crd (led rows S (u.take i)) = crd S := fun i hi => by
    have a := crd_le hA hS (hut i)
    rcases Nat.lt_or_ge (crd (led rows S (u.take i))) (crd S) with e | e
    · exact absurd ⟨_, hut i, by rw [List.length_take]; omega, e⟩ (hmin i hi)
    · omega
  have hpq : ∀ i, ∃ x : Nat × Nat, i < m → (led rows S (u.take i)).testBit x.1 = true ∧ (led rows S (u.take i)).testBit x.2 = true ∧ x.1 ≠ x.2 ∧ dl rows x.1 (u.drop i) = dl rows x.2 (u.drop i) := fun i => by
    by_cases hi : i < m
    · obtain ⟨p, q, a, b, c, d⟩ := inj_crd hA (hT i) (hud i) (by rw [← led_append, List.take_append_drop, hk i hi]; exact hc)
      exact ⟨(p, q), fun _ => ⟨b, c, a, d⟩⟩
    · exact ⟨(0, 0), fun h => absurd h hi⟩
  obtain ⟨x, hx⟩ := Classical.axiomOfChoice hpq
  rw [hm]
  refine Tri.pairs_few (m := m) (s := rows.length - crd S) (fun i => (x i).1) (fun i => (x i).2) (fun i => (List.range rows.length).filter fun t => !(led rows S (u.take i)).testBit t) (fun i hi => ?_) (fun i hi => ?_) (fun i hi j hj => ?_)
  · rw [(off_len _ hn7 _ (hT i)).1, hk i hi]
  · obtain ⟨a, b, _, _⟩ := hx i hi
    constructor
    · intro h; rw [List.mem_filter, a] at h; exact absurd h.2 (by decide)
    · intro h; rw [List.mem_filter, b] at h; exact absurd h.2 (by decide)
  · obtain ⟨a, b, c, d⟩ := hx i hi
    have pn := bit_lt (hT i) a
    have qn := bit_lt (hT i) b
    by_cases e1 : (led rows S (u.take j)).testBit (x i).1 = true
    · by_cases e2 : (led rows S (u.take j)).testBit (x i).2 = true
      · have := crd_lt hA (hT j) (hud i) e1 e2 c d
        rw [← led_append, hk j (by omega)] at this
        exact absurd ⟨_, (hut j).append (hud i), rfl, this⟩ (hmin _ (by rw [List.length_append, List.length_take, List.length_drop]; omega))
      · exact .inr (List.mem_filter.2 ⟨List.mem_range.2 qn, by simpa using e2⟩)
    · exact .inl (List.mem_filter.2 ⟨List.mem_range.2 pn, by simpa using e1⟩)
def bnd (n : Nat) : Nat → Nat
  | 0 => 0
  | k + 1 => (if k = 0 then 0 else (n - (k + 1) + 1) * (n - (k + 1) + 2) / 2) + bnd n k
theorem chain {rows : List (List Int)} {L : Nat} (hA : Aut rows L) (hp : ∀ s t, s < rows.length → t < rows.length → (first rows L (2 ^ s ||| 2 ^ t)).2 = true) : ∀ k S, 0 < S → S < 2 ^ rows.length → crd S ≤ k → ∃ u, OkW L u ∧ sglB (led rows S u) = true ∧ u.length ≤ bnd rows.length k
  | 0, S, h0, hS, hc => by have := (crd_1 S (Nat.lt_of_lt_of_le hS hA.pow) h0).1; omega
  | k + 1, S, h0, hS, hc => by
    by_cases hck : crd S ≤ k
    · obtain ⟨u, u1, u2, u3⟩ := chain hA hp k S h0 hS hck
      exact ⟨u, u1, u2, by simp only [bnd]; omega⟩
    · have hcS : crd S = k + 1 := by omega
      cases hs : sglB S with
      | true => exact ⟨[], fun b hb => (by cases hb), hs, Nat.zero_le _⟩
      | false =>
        have h2 := crd_sgl S (Nat.lt_of_lt_of_le hS hA.pow) h0 hs
        obtain ⟨v, v1, v2, v3⟩ := shrink hA hp hS h0 hs
        obtain ⟨u, u1, u2, u3⟩ := chain hA hp k _ (led_pos hA hS h0 v1) (hA.led_lt hS v1) (by omega)
        refine ⟨v ++ u, v1.append u1, by rw [led_append]; exact u2, ?_⟩
        rw [hcS] at v3
        rw [List.length_append, bnd, if_neg (by omega)]
        generalize (rows.length - (k + 1) + 1) * (rows.length - (k + 1) + 2) = z at v3 ⊢
        omega
theorem bnd_le : ∀ n, n < 7 → 6 * bnd n n + n ≤ n * n * n := by decide
theorem first_bound {rows : List (List Int)} {L : Nat} (hA : Aut rows L) (h : (first rows L (fullS rows)).2 = true) : 6 * (first rows L (fullS rows)).1.size + rows.length ≤ rows.length * rows.length * rows.length := by
  have hn7 : rows.length < 7 := by have := hA.n6; omega
  obtain ⟨u, u1, u2, u3⟩ := chain hA (fun s t hs ht => first_all hA h hs ht) rows.length (fullS rows) (full_pos hA) (full_lt2 rows) (off_len _ hn7 _ (full_lt2 rows)).2
  have hk := first_min hA (full_lt2 rows) u1 u2
  have hl := key_len hA.L16 (first_from hA.L16 hk.1).1 u1 hk.2
  have e1 : (first rows L (fullS rows)).1.data.toList.length = (first rows L (fullS rows)).1.size := by simp
  have := bnd_le _ hn7
  omega
/-! ### words in order -/
theorem dig_inj {a b : UInt8} (ha : 0 ≤ dig a) (h : dig a = dig b) : a = b := by
  apply UInt8.toNat_inj.1
  unfold dig at ha h
  split at ha <;> split at h <;> first | omega | (split at ha <;> split at h <;> omega)
theorem dig_mono {a b : UInt8} (ha : 0 ≤ dig a) (h : dig a < dig b) : a < b := by
  rw [UInt8.lt_iff_toNat_lt]
  unfold dig at ha h
  have := a.toNat_lt
  have := b.toNat_lt
  repeat' split at ha
  all_goals repeat' split at h
  all_goals omega
theorem key_inj {L : Nat} (hL : L ≤ 16) : ∀ u : List UInt8, OkW L u → ∀ v, OkW L v → u.length = v.length → key u = key v → u = v :=
  snoc_ind (fun _ v _ hl _ => (List.eq_nil_of_length_eq_zero hl.symm).symm) fun u a ih hu => by
    refine snoc_ind (fun _ hl _ => by simp at hl) fun v b _ hv hl hk => ?_
    have ha := hu.right a (by simp)
    have hb := hv.right b (by simp)
    rw [key_snoc, key_snoc] at hk
    simp only [List.length_append, List.length_singleton] at hl
    rw [ih hu.left v hv.left (by omega) (by omega), dig_inj ha.1 (show dig a = dig b by omega)]
theorem lt_app : ∀ (u v x y : List UInt8), u.length = v.length → u < v → u ++ x < v ++ y
  | [], [], x, y, _, h => absurd h (by simp)
  | [], b :: v, x, y, hl, _ => by simp at hl
  | a :: u, [], x, y, hl, _ => by simp at hl
  | a :: u, b :: v, x, y, hl, h => by
    rw [List.cons_append, List.cons_append]
    rw [List.cons_lt_cons_iff] at h ⊢
    rcases h with h | ⟨h1, h2⟩
    · exact .inl h
    · exact .inr ⟨h1, lt_app u v x y (by simpa using hl) h2⟩
theorem lt_same (u : List UInt8) {a b : UInt8} (h : a < b) : u ++ [a] < u ++ [b] := by
  induction u with
  | nil => rw [List.nil_append, List.nil_append, List.cons_lt_cons_iff]; exact .inl h
  | cons c u ih => rw [List.cons_append, List.cons_append, List.cons_lt_cons_iff]; exact .inr ⟨rfl, ih⟩
theorem key_lex {L : Nat} (hL : L ≤ 16) : ∀ u : List UInt8, OkW L u → ∀ v, OkW L v → u.length = v.length → key u < key v → u < v :=
  snoc_ind (fun _ v _ hl hk => by rw [List.eq_nil_of_length_eq_zero hl.symm] at hk; exact absurd hk (Nat.lt_irrefl _)) fun u a ih hu => by
    refine snoc_ind (fun _ hl _ => by simp at hl) fun v b _ hv hl hk => ?_
    have ha := hu.right a (by simp)
    have hb := hv.right b (by simp)
    rw [key_snoc, key_snoc] at hk
    simp only [List.length_append, List.length_singleton] at hl
    rcases Nat.lt_or_ge (key u) (key v) with e | e
    · exact lt_app _ _ _ _ (by omega) (ih hu.left v hv.left (by omega) e)
    · have := key_inj hL u hu.left v hv.left (by omega) (by omega)
      subst this
      exact lt_same _ (dig_mono ha.1 (by omega))
/-- no reset word is less than the first one -/
theorem first_least {rows : List (List Int)} {L : Nat} (hA : Aut rows L) {u : List UInt8} (hu : OkW L u) (hs : sglB (led rows (fullS rows) u) = true) :
    (first rows L (fullS rows)).2 = true ∧ ((first rows L (fullS rows)).1.data.toList.length < u.length ∨ ((first rows L (fullS rows)).1.data.toList.length = u.length ∧ ((first rows L (fullS rows)).1.data.toList = u ∨ (first rows L (fullS rows)).1.data.toList < u))) := by
  have hk := first_min hA (full_lt2 rows) hu hs
  have hf := (first_from hA.L16 hk.1).1
  have hl := key_len hA.L16 hf hu hk.2
  refine ⟨hk.1, ?_⟩
  rcases Nat.lt_or_ge (first rows L (fullS rows)).1.data.toList.length u.length with e | e
  · exact .inl e
  · refine .inr ⟨by omega, ?_⟩
    rcases Nat.lt_or_ge (key (first rows L (fullS rows)).1.data.toList) (key u) with k | k
    · exact .inr (key_lex hA.L16 _ hf _ hu (by omega) k)
    · exact .inl (key_inj hA.L16 _ hf _ hu (by omega) (by omega))
end Go.Proofs.YtmokccidpnpimaaDoor
