/- append of a whole row of strings; grooveref47.add: its contract at an ascending list. -/
import Derived.Test.YtmajalpmbppkpaaConW
import Derived.Laws.OwnMore
import Derived.Laws.Cover1
import Derived.Sort.Walk0
set_option linter.unusedVariables false
namespace Go.Proofs.Ytmajalpmbppkpaa
open Go.RowKit Go.Sort
/-- a slice value that holds the strings xs -/
def SlS (w : World) (x : Value) (xs : List ByteArray) : Prop := (x = .slice none 0 0 ∧ xs = []) ∨ ∃ a c, x = .slice (some a) xs.length c ∧ ∀ k (hk : k < xs.length), w.cell? (a.add k) = some (.string xs[k])
theorem run_app_sl (w : World) (ty : TypeId) (B : Nat) (v : Value) (xs : List ByteArray) (hown : Strs w B v xs) (x : Value) (news : List ByteArray) (hx : SlS w x news) (hb : xs.length + news.length ≤ 4294967296) (hbase : B ≤ w.heap.size) :
    ∃ v' w', (Builtin.append_ #[54, 54] ty #[v, x]).run Try.prog w = .ok v' w' ∧ Strs w' B v' (xs ++ news) ∧ w.grownBy w' v.ownBlock ∧ (v ≠ .slice none 0 0 → v' ≠ .slice none 0 0) := by
  obtain ⟨i0, hi, hz0, hz1, hz2⟩ := info_parts infoStr
  rcases hx with ⟨rfl, rfl⟩ | ⟨a, c, rfl, hcell⟩
  · refine ⟨v, w, run_append_owned_none w B 54 ty 9 i0 1 Try.underlying54 hi v _ _ hown, by simpa using hown, World.grownBy.refl _ _, id⟩
  · obtain ⟨v', w', h1, h2, h3, h4⟩ := run_append_own (P := Try.prog) w B 54 ty 9 i0 _ 1 16 Try.underlying54 hi hz0 hz1 hz2 rfl (by decide) v xs.length (xs.map Value.string) hown a news.length c (news.map Value.string) (by simp) (by
        intro j u hj
        rw [List.getElem?_map] at hj
        cases hn : news[j]? with
        | none => rw [hn] at hj; cases hj
        | some b =>
          rw [hn] at hj
          obtain ⟨hlt, e⟩ := List.getElem?_eq_some_iff.1 hn
          rw [hcell j hlt, e]
          exact hj) (by
        intro u hu
        obtain ⟨b, _, rfl⟩ := List.mem_map.1 hu
        rfl) (by unfold maxLen; omega) (by omega) hbase
    refine ⟨v', w', h1, ?_, h3, fun hv e => hv (h4.1 e).1⟩
    unfold Strs
    rw [List.length_append, List.map_append]
    exact h2
theorem wp_app_sl {w : World} {o : Oper} {a : Act} {K : Act → World → Prop} {Q : Exit → Act → World → Prop} (s x : Operand)
    (ho : o.op = .call { callee := .builtin .append, args := #[s, x], argTypes := #[54, 54] })
    (B : Nat) (v : Value) (xs : List ByteArray) (hs : a.eval s = v) (hown : Strs w B v xs)
    (xv : Value) (news : List ByteArray) (hx : a.eval x = xv) (hsl : SlS w xv news) (hb : xs.length + news.length ≤ 4294967296) (hbase : B ≤ w.heap.size)
    (h : ∀ v' w', Strs w' B v' (xs ++ news) → w.grownBy w' v.ownBlock → (v ≠ .slice none 0 0 → v' ≠ .slice none 0 0) → K (a.put o.dst v') w') : o.wp Try.prog a w K Q := by
  obtain ⟨v', w', hr, h2, h3, h4⟩ := run_app_sl w o.type B v xs hown xv news hsl hb hbase
  unfold Oper.wp execOp
  simp only [ho, resolve, invoke, builtin, Sem.run_bind, Sem.run_pure, Result.andThen_ok, List.map_toArray, List.map_cons, List.map_nil, hs, hx, hr]
  exact h v' w' h2 h3 h4
theorem wpList_app_sl {w : World} {ops : Array Oper} {rest : List Oper} {o : Oper} {a : Act} {Q : Exit → Act → World → Prop} (hgd : o.guard = none) (s x : Operand)
    (ho : o.op = .call { callee := .builtin .append, args := #[s, x], argTypes := #[54, 54] })
    (B : Nat) (v : Value) (xs : List ByteArray) (hs : a.eval s = v) (hown : Strs w B v xs)
    (xv : Value) (news : List ByteArray) (hx : a.eval x = xv) (hsl : SlS w xv news) (hb : xs.length + news.length ≤ 4294967296) (hbase : B ≤ w.heap.size)
    (h : ∀ v' w', Strs w' B v' (xs ++ news) → w.grownBy w' v.ownBlock → (v ≠ .slice none 0 0 → v' ≠ .slice none 0 0) → wpList Try.prog ops Q rest (a.put o.dst v') w') : wpList Try.prog ops Q (o :: rest) a w :=
  wpList_plain hgd fun _ hK => wp_app_sl s x ho B v xs hs hown xv news hx hsl hb hbase fun v' w' h2 h3 h4 => hK _ _ (h v' w' h2 h3 h4)
/-- a row of the call's own that is not nil -/
def Row1 (w : World) (B : Nat) (v : Value) (xs : List ByteArray) : Prop := Strs w B v xs ∧ v ≠ .slice none 0 0
theorem Row1.form {w : World} {B : Nat} {v : Value} {xs : List ByteArray} (h : Row1 w B v xs) : ∃ g c, v = .slice (some ⟨g, 0, none⟩) xs.length c ∧ xs.length ≤ c ∧ c ≤ maxLen ∧ B ≤ g ∧ g < w.heap.size ∧ ∀ k (hk : k < xs.length), w.cell? ⟨g, k, none⟩ = some (.string xs[k]) := by
  rcases h.1.2 with ⟨hv, _⟩ | ⟨g, cap, cur, hv, hb, hh, hc, hm, _⟩
  · exact absurd hv h.2
  · refine ⟨g, cap, hv, hc, hm, hb, ?_, fun k hk => ?_⟩
    · rcases Nat.lt_or_ge g w.heap.size with hlt | hge
      · exact hlt
      · rw [Array.getElem?_eq_none hge] at hh; cases hh
    · have := h.1
      rw [hv] at this
      exact this.cell hk
/-- the list with a word more, ascending -/
def AddRes (xs : List ByteArray) (x : ByteArray) (ys : List ByteArray) : Prop := ys.Pairwise (fun a b => a.data.toList < b.data.toList) ∧ (∀ z, z ∈ ys ↔ z ∈ xs ∨ z = x) ∧ ys.length ≤ xs.length + 1
theorem add_at {xs : List ByteArray} {x : ByteArray} {k : Nat} (hp : xs.Pairwise (fun a b => a.data.toList < b.data.toList)) (hk : k ≤ xs.length)
    (h1 : ∀ j (hj : j < xs.length), k ≤ j → x.data.toList < xs[j].data.toList) (h2 : ∀ j (hj : j < xs.length), j < k → xs[j].data.toList < x.data.toList) : AddRes xs x (xs.take k ++ [x] ++ xs.drop k) := by
  refine ⟨?_, fun z => ?_, by simp; omega⟩
  · rw [List.append_assoc, List.pairwise_append]
    refine ⟨hp.sublist (List.take_sublist _ _), ?_, fun a ha b hb => ?_⟩
    · rw [List.singleton_append, List.pairwise_cons]
      refine ⟨fun b hb => ?_, hp.sublist (List.drop_sublist _ _)⟩
      obtain ⟨i, hi, rfl⟩ := List.getElem_of_mem hb
      rw [List.getElem_drop]
      exact h1 _ _ (by omega)
    · obtain ⟨i, hi, rfl⟩ := List.getElem_of_mem ha
      have hi' : i < k ∧ i < xs.length := by rw [List.length_take] at hi; omega
      rw [List.getElem_take]
      have hax := h2 i hi'.2 hi'.1
      rw [List.singleton_append, List.mem_cons] at hb
      rcases hb with rfl | hb
      · exact hax
      · obtain ⟨j, hj, rfl⟩ := List.getElem_of_mem hb
        rw [List.getElem_drop]
        exact List.lt_trans hax (h1 _ _ (by omega))
  · rw [List.mem_append, List.mem_append, List.mem_singleton]
    have := List.take_append_drop k xs
    have hm : z ∈ xs ↔ z ∈ xs.take k ∨ z ∈ xs.drop k := by
      rw [← List.mem_append, this]
    rw [hm]
    constructor
    · rintro ((h | h) | h)
      · exact .inl (.inl h)
      · exact .inr h
      · exact .inl (.inr h)
    · rintro ((h | h) | h)
      · exact .inl (.inl h)
      · exact .inr h
      · exact .inl (.inr h)
theorem add_same {xs : List ByteArray} {x : ByteArray} (hp : xs.Pairwise (fun a b => a.data.toList < b.data.toList)) (h : x ∈ xs) : AddRes xs x xs := ⟨hp, fun z => ⟨.inl, fun h' => by rcases h' with h' | rfl <;> assumption⟩, by omega⟩
theorem Strs.mono {w : World} {B B' : Nat} {v : Value} {xs : List ByteArray} (h : Strs w B v xs) (hb : B' ≤ B) : Strs w B' v xs := by
  unfold Strs World.ownsRow at h ⊢
  refine ⟨h.1, ?_⟩
  rcases h.2 with h' | ⟨g, cap, cur, h1, h2, h3⟩
  · exact .inl h'
  · exact .inr ⟨g, cap, cur, h1, by omega, h3⟩
theorem sl_take {w : World} {g c k : Nat} {xs : List ByteArray} (h : ∀ k (hk : k < xs.length), w.cell? ⟨g, k, none⟩ = some (.string xs[k])) (hk : k ≤ xs.length) : SlS w (.slice (some ⟨g, 0, none⟩) k c) (xs.take k) := by
  refine .inr ⟨⟨g, 0, none⟩, c, by rw [List.length_take, Nat.min_eq_left hk], fun j hj => ?_⟩
  have hj' : j < xs.length := by rw [List.length_take] at hj; omega
  rw [show (⟨g, 0, none⟩ : Addr).add j = ⟨g, j, none⟩ by simp [Addr.add]; omega, h j hj', List.getElem_take]
theorem sl_drop {w : World} {g c k : Nat} {xs : List ByteArray} (h : ∀ k (hk : k < xs.length), w.cell? ⟨g, k, none⟩ = some (.string xs[k])) (hk : k ≤ xs.length) : SlS w (.slice (some ⟨g, k, none⟩) (xs.length - k) c) (xs.drop k) := by
  refine .inr ⟨⟨g, k, none⟩, c, by rw [List.length_drop], fun j hj => ?_⟩
  have hj' : k + j < xs.length := by rw [List.length_drop] at hj; omega
  have he : (⟨g, k, none⟩ : Addr).add j = ⟨g, k + j, none⟩ := by
    unfold Addr.add
    by_cases h0 : j = 0
    · subst h0; simp
    · simp [h0]
  rw [he, h _ hj', List.getElem_drop]
theorem sl_drop0 {w : World} {a : Addr} {c k : Nat} {xs : List ByteArray} (hk : xs.length ≤ k) : SlS w (.slice (some a) (xs.length - k) c) (xs.drop k) := by
  refine .inr ⟨a, c, by rw [List.length_drop], fun j hj => ?_⟩
  rw [List.length_drop] at hj
  omega
theorem sl_nil {w : World} {a : Addr} {c : Nat} : SlS w (.slice (some a) 0 c) [] := .inr ⟨a, c, rfl, fun k hk => absurd hk (by simp)⟩
theorem sl_one {w : World} {g : Nat} (hg : w.heap.size = g) (x : ByteArray) : SlS (w.alloc (.cells #[.string x] 9)) (.slice (some ⟨g, 0, none⟩) 1 1) [x] := by
  subst hg
  exact sl_take (xs := [x]) (k := 1) (fun k hk => Strs.cell (Strs.lit w [x] (Nat.le_refl _) (by simp) _ rfl) hk) (by simp)
set_option maxRecDepth 100000 in
set_option maxHeartbeats 2000000 in
theorem add_any (B : Nat) (v : Value) (xs : List ByteArray) (x : ByteArray) (w : World) (hown : Row1 w B v xs) (hb : xs.length ≤ 1000000) (hbase : B ≤ w.heap.size) (hp : xs.Pairwise (fun a b => a.data.toList < b.data.toList)) :
    Calls Try.prog 82 #[v, .string x] w fun e w' => ∃ v' ys, e = .returned v' ∧ Row1 w' B v' ys ∧ AddRes xs x ys ∧ Below w.heap.size w w' := by
  obtain ⟨g, c, rfl, hc, hcm, hBg, hgs, hcell⟩ := hown.form
  have HO := hide hown
  have HP := hide hp
  have HC := hide hcell
  clear hown hp hcell
  go_enter Try.func82, Try.ntmps82
  go_wp2
  go_loopw [5] (fun iv wr => ∃ k : Nat, iv = .int .i64 k ∧ k ≤ xs.length ∧ Hid (∀ j (hj : j < xs.length), k ≤ j → x.data.toList < xs[j].data.toList) ∧ wr = w) (fun iv _ => (intOf iv).toNat)
  case atStart => exact ⟨xs.length, rfl, Nat.le_refl _, hide fun j hj h => absurd h (by omega), rfl⟩
  case round =>
    obtain ⟨k, rfl, hk, hK, rfl⟩ := hrel
    by_cases h0 : k = 0
    · subst h0
      have HR := hide (add_at HP.out hk hK.out (fun j hj h => absurd h (by omega)))
      rcases Nat.lt_or_ge 0 c with hck | hck
      · have hck2 : ¬ c = 0 := by omega
        have HS1 := hide (sl_take (c := c) (fun k hk => (World.cell?_alloc_lt wr (Obj.cells #[] 9) ⟨g, k, none⟩ hgs).trans (HC.out k hk)) hk)
        have HE := hide (Strs.empty_ (w := wr) rfl (Nat.le_refl _))
        have HB0 := hide ((Below.refl wr.heap.size wr).alloc (Nat.le_refl _) (Obj.cells #[] 9))
        go_wp2_with (at_builtin; first
          | (refine wpList_app_sl rfl _ _ rfl wr.heap.size v2 _ rfl hown2 _ (xs.drop (0)) rfl (sl_drop (fun k hk => (hB2.cell hgs).trans (HC.out k hk)) hk) (by simp <;> omega) hB2.size ?_; intro v3 w3 hown3 hg3 hn3; have hB3 := below_app hB2 hown2 hg3)
          | (refine wpList_app_sl rfl _ _ rfl wr.heap.size v1 _ rfl (hown1.alloc _) _ [x] rfl (sl_one rfl x) (by simp <;> omega) (hB1.alloc hB1.size _).size ?_; intro v2 w2 hown2 hg2 hn2; have hB2 := below_app (hB1.alloc hB1.size _) (hown1.alloc _) hg2)
          | (refine wpList_app_sl rfl _ _ rfl wr.heap.size (.slice (some ⟨wr.heap.size, 0, none⟩) 0 0) _ rfl HE.out _ (xs.take (0)) rfl HS1.out (by simp <;> omega) HB0.out.size ?_; intro v1 w1 hown1 hg1 hn1; have hB1 := below_app HB0.out HE.out hg1))
        go_ret
        exact ⟨v3, _, rfl, ⟨hown3.mono hbase, hn3 (hn2 (hn1 (by simp)))⟩, HR.out, hB3⟩
      · obtain rfl : c = 0 := by omega
        have HCK := hide hc
        have HS1 := hide (sl_take (c := 0) (fun k hk => (World.cell?_alloc_lt wr (Obj.cells #[] 9) ⟨g, k, none⟩ hgs).trans (HC.out k hk)) hk)
        have HE := hide (Strs.empty_ (w := wr) rfl (Nat.le_refl _))
        have HB0 := hide ((Below.refl wr.heap.size wr).alloc (Nat.le_refl _) (Obj.cells #[] 9))
        go_wp2_with (at_builtin; first
          | (refine wpList_app_sl rfl _ _ rfl wr.heap.size v2 _ rfl hown2 _ ([] : List ByteArray) rfl (sl_nil) (by simp <;> omega) hB2.size ?_; intro v3 w3 hown3 hg3 hn3; have hB3 := below_app hB2 hown2 hg3)
          | (refine wpList_app_sl rfl _ _ rfl wr.heap.size v1 _ rfl (hown1.alloc _) _ [x] rfl (sl_one rfl x) (by simp <;> omega) (hB1.alloc hB1.size _).size ?_; intro v2 w2 hown2 hg2 hn2; have hB2 := below_app (hB1.alloc hB1.size _) (hown1.alloc _) hg2)
          | (refine wpList_app_sl rfl _ _ rfl wr.heap.size (.slice (some ⟨wr.heap.size, 0, none⟩) 0 0) _ rfl HE.out _ (xs.take (0)) rfl HS1.out (by simp <;> omega) HB0.out.size ?_; intro v1 w1 hown1 hg1 hn1; have hB1 := below_app HB0.out HE.out hg1))
        go_ret
        exact ⟨v3, _, rfl, ⟨hown3.mono hbase, hn3 (hn2 (hn1 (by simp)))⟩, by have := HR.out; rwa [List.drop_eq_nil_of_le HCK.out] at this, hB3⟩
    · obtain ⟨p, rfl⟩ : ∃ p, k = p + 1 := ⟨k - 1, by omega⟩
      have hpl : p < xs.length := by omega
      have c1 := HC.out p hpl
      obtain ⟨a, ha⟩ : ∃ a, a = xs[p] := ⟨_, rfl⟩
      rw [← ha] at c1
      have HA := hide ha
      have hp0 : (0 : Int) ≤ (p : Int) := by omega
      have hp1 : (p : Int) < (xs.length : Int) := by omega
      have hpw : IntKind.i64.wrap (((p + 1 : Nat) : Int) - 1) = (p : Int) := by rw [IntWalk.i64_in _ (by omega)]; omega
      have hd : decide (0 < ((p + 1 : Nat) : Int)) = true := decide_eq_true (by omega)
      clear ha
      by_cases hlt : x.data.toList < a.data.toList
      · have hbl : Op.bytesLess x.toList a.toList = true := by
          rw [bytesLess_eq, decide_eq_true_iff, ByteArray.toList_eq, ByteArray.toList_eq]; exact hlt
        have HLT := hide hlt
        clear hlt h0
        go_wp2
        go_roundw
        case rel =>
          refine ⟨p, by go_num, by omega, hide fun j hj h => ?_, by first | exact trivial | rfl⟩
          rcases Nat.lt_or_ge p j with h' | h'
          · exact hK.out j hj h'
          · obtain rfl : j = p := by omega
            rw [← HA.out]; exact HLT.out
        case measure => simp [intOf]
      · have hbl : Op.bytesLess x.toList a.toList = false := by
          rw [bytesLess_eq, decide_eq_false_iff_not, ByteArray.toList_eq, ByteArray.toList_eq]; exact hlt
        by_cases he : a = x
        · subst he
          have hself : (a.toList == a.toList) = true := by simp
          have HR := hide (add_same HP.out (show a ∈ xs by rw [HA.out]; exact List.getElem_mem _))
          clear hlt h0
          go_wp2
          go_ret
          exact ⟨_, xs, rfl, HO.out, HR.out, Below.refl _ _⟩
        · have hne : (a.toList == x.toList) = false := ne_list (fun e => he e.symm)
          have hax : ∀ j (hj : j < xs.length), j < p + 1 → xs[j].data.toList < x.data.toList := fun j hj h => by
            have h1 : ¬ x.data.toList < xs[p].data.toList := by rw [← HA.out]; exact hlt
            have h2 : xs[p].data.toList ≠ x.data.toList := by rw [← HA.out]; exact fun e => he (ByteArray.ext (Array.toList_inj.1 e))
            have h3 : xs[p].data.toList < x.data.toList := Decidable.byContradiction fun h4 => h2 (List.le_antisymm h1 h4)
            rcases Nat.lt_or_ge j p with h' | h'
            · exact List.lt_trans (List.pairwise_iff_getElem.1 HP.out j p hj hpl h') h3
            · obtain rfl : j = p := by omega
              exact h3
          have HR := hide (add_at HP.out hk hK.out hax)
          clear hlt h0 he hax
          rcases Nat.lt_or_ge (p + 1) c with hck | hck
          · have hck2 : ¬ c = p + 1 := by omega
            have HS1 := hide (sl_take (c := c) (fun k hk => (World.cell?_alloc_lt wr (Obj.cells #[] 9) ⟨g, k, none⟩ hgs).trans (HC.out k hk)) hk)
            have HE := hide (Strs.empty_ (w := wr) rfl (Nat.le_refl _))
            have HB0 := hide ((Below.refl wr.heap.size wr).alloc (Nat.le_refl _) (Obj.cells #[] 9))
            go_wp2_with (at_builtin; first
              | (refine wpList_app_sl rfl _ _ rfl wr.heap.size v2 _ rfl hown2 _ (xs.drop (p + 1)) rfl (sl_drop (fun k hk => (hB2.cell hgs).trans (HC.out k hk)) hk) (by simp <;> omega) hB2.size ?_; intro v3 w3 hown3 hg3 hn3; have hB3 := below_app hB2 hown2 hg3)
              | (refine wpList_app_sl rfl _ _ rfl wr.heap.size v1 _ rfl (hown1.alloc _) _ [x] rfl (sl_one rfl x) (by simp <;> omega) (hB1.alloc hB1.size _).size ?_; intro v2 w2 hown2 hg2 hn2; have hB2 := below_app (hB1.alloc hB1.size _) (hown1.alloc _) hg2)
              | (refine wpList_app_sl rfl _ _ rfl wr.heap.size (.slice (some ⟨wr.heap.size, 0, none⟩) 0 0) _ rfl HE.out _ (xs.take (p + 1)) rfl HS1.out (by simp <;> omega) HB0.out.size ?_; intro v1 w1 hown1 hg1 hn1; have hB1 := below_app HB0.out HE.out hg1))
            go_ret
            exact ⟨v3, _, rfl, ⟨hown3.mono hbase, hn3 (hn2 (hn1 (by simp)))⟩, HR.out, hB3⟩
          · obtain rfl : c = p + 1 := by omega
            have HCK := hide hc
            have HS1 := hide (sl_take (c := p + 1) (fun k hk => (World.cell?_alloc_lt wr (Obj.cells #[] 9) ⟨g, k, none⟩ hgs).trans (HC.out k hk)) hk)
            have HE := hide (Strs.empty_ (w := wr) rfl (Nat.le_refl _))
            have HB0 := hide ((Below.refl wr.heap.size wr).alloc (Nat.le_refl _) (Obj.cells #[] 9))
            go_wp2_with (at_builtin; first
              | (refine wpList_app_sl rfl _ _ rfl wr.heap.size v2 _ rfl hown2 _ ([] : List ByteArray) rfl (sl_nil) (by simp <;> omega) hB2.size ?_; intro v3 w3 hown3 hg3 hn3; have hB3 := below_app hB2 hown2 hg3)
              | (refine wpList_app_sl rfl _ _ rfl wr.heap.size v1 _ rfl (hown1.alloc _) _ [x] rfl (sl_one rfl x) (by simp <;> omega) (hB1.alloc hB1.size _).size ?_; intro v2 w2 hown2 hg2 hn2; have hB2 := below_app (hB1.alloc hB1.size _) (hown1.alloc _) hg2)
              | (refine wpList_app_sl rfl _ _ rfl wr.heap.size (.slice (some ⟨wr.heap.size, 0, none⟩) 0 0) _ rfl HE.out _ (xs.take (p + 1)) rfl HS1.out (by simp <;> omega) HB0.out.size ?_; intro v1 w1 hown1 hg1 hn1; have hB1 := below_app HB0.out HE.out hg1))
            go_ret
            exact ⟨v3, _, rfl, ⟨hown3.mono hbase, hn3 (hn2 (hn1 (by simp)))⟩, by have := HR.out; rwa [List.drop_eq_nil_of_le HCK.out] at this, hB3⟩
end Go.Proofs.Ytmajalpmbppkpaa
