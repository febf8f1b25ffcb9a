/- grooveref58.numbers: its contract. -/
import Derived.Test.YtmajalpmbppkpaaNum
import Derived.ArgAppend
set_option linter.unusedVariables false
namespace Go.Proofs.Ytmajalpmbppkpaa
open Go.RowKit
def SlI (w : World) (x : Value) (zs : List Int) : Prop := (x = .slice none 0 0 ∧ zs = []) ∨ ∃ a c, x = .slice (some a) zs.length c ∧ ∀ k (hk : k < zs.length), w.cell? (a.add k) = some (.int .i64 zs[k])
theorem infoInt2 : (Try.prog.info? 3).map (fun i => (i.zero, i.size, i.bytes)) = some (some (.int .i64 0), 1, 8) := by kernel_rfl
theorem news_int {w : World} {a : Addr} {zs : List Int} (h : ∀ k (hk : k < zs.length), w.cell? (a.add k) = some (.int .i64 zs[k])) : ∀ j u, (zs.map (Value.int .i64))[j]? = some u → w.cell? (a.add j) = some u := by
  intro j u hj
  rw [List.getElem?_map] at hj
  cases hn : zs[j]? with
  | none => rw [hn] at hj; cases hj
  | some b =>
    rw [hn] at hj
    obtain ⟨hlt, e⟩ := List.getElem?_eq_some_iff.1 hn
    rw [h j hlt, e]
    exact hj
theorem run_app_is (w : World) (ty : TypeId) (B : Nat) (v : Value) (xs : List Int) (hown : IStr w B v xs) (x : Value) (news : List Int) (hx : SlI w x news) (hb : xs.length + news.length ≤ 4294967296) (hbase : B ≤ w.heap.size) :
    ∃ v' w', (Builtin.append_ #[26, 26] ty #[v, x]).run Try.prog w = .ok v' w' ∧ IStr w' B v' (xs ++ news) ∧ w.grownBy w' v.ownBlock ∧ (v ≠ .slice none 0 0 → v' ≠ .slice none 0 0) := by
  obtain ⟨i0, hi, hz0, hz1, hz2⟩ := info_parts infoInt2
  rcases hx with ⟨rfl, rfl⟩ | ⟨a, c, rfl, hcell⟩
  · refine ⟨v, w, run_append_owned_none w B 26 ty 3 i0 1 Try.underlying26 hi v _ _ hown, by simpa using hown, World.grownBy.refl _ _, id⟩
  · obtain ⟨v', w', h1, h2, h3, h4⟩ := run_append_own (P := Try.prog) w B 26 ty 3 i0 _ 1 8 Try.underlying26 hi hz0 hz1 hz2 rfl (by decide) v xs.length (xs.map (Value.int .i64)) hown a news.length c (news.map (Value.int .i64)) (by simp) (news_int hcell) (by
        intro u hu
        obtain ⟨b, _, rfl⟩ := List.mem_map.1 hu
        rfl) (by unfold maxLen; omega) (by omega) hbase
    refine ⟨v', w', h1, ?_, h3, fun hv e => hv (h4.1 e).1⟩
    unfold IStr
    rw [List.length_append, List.map_append]
    exact h2
theorem step_app_is {w : World} {ops : Array Oper} {o : Oper} {a : Act} {K : Act → World → Prop} {Q : Exit → Act → World → Prop} {E : Prop} (hgd : o.guard = none) (s x : Operand)
    (ho : o.op = .call { callee := .builtin .append, args := #[s, x], argTypes := #[26, 26] })
    (B : Nat) (v : Value) (xs : List Int) (hs : a.eval s = v) (hown : IStr w B v xs)
    (xv : Value) (news : List Int) (hx : a.eval x = xv) (hsl : SlI w xv news) (hb : xs.length + news.length ≤ 4294967296) (hbase : B ≤ w.heap.size)
    (h : ∀ v' w', IStr w' B v' (xs ++ news) → w.grownBy w' v.ownBlock → (v ≠ .slice none 0 0 → v' ≠ .slice none 0 0) → K (a.put o.dst v') w') :
    if Region.wanted o (yielded ops a.tmps) = true then Oper.wp Try.prog o a w K Q else E := by
  have hw : Region.wanted o (yielded ops a.tmps) = true := by simp [Region.wanted, hgd]
  rw [if_pos hw]
  obtain ⟨v', w', hr, h2, h3, h4⟩ := run_app_is w o.type B v xs hown xv news hsl hb hbase
  unfold Oper.wp execOp
  simp only [ho, resolve, invoke, builtin, Sem.run_bind, Sem.run_pure, Result.andThen_ok, List.map_toArray, List.map_cons, List.map_nil, hs, hx, hr]
  exact h v' w' h2 h3 h4
theorem wpList_app_grow {w : World} {ops : Array Oper} {rest : List Oper} {o : Oper} {a : Act} {Q : Exit → Act → World → Prop} (hgd : o.guard = none) (s x : Operand)
    (ho : o.op = .call { callee := .builtin .append, args := #[s, x], argTypes := #[26, 26] })
    (g n : Nat) (xs : List Int) (hs : a.eval s = .slice (some ⟨g, 0, none⟩) n n) (hn : xs.length = n) (hcell : ∀ k (hk : k < xs.length), w.cell? ⟨g, k, none⟩ = some (.int .i64 xs[k]))
    (ad : Addr) (m c : Nat) (news : List Int) (hx : a.eval x = .slice (some ad) m c) (hm : news.length = m) (hc : ∀ k (hk : k < news.length), w.cell? (ad.add k) = some (.int .i64 news[k])) (h0 : 0 < m) (hb : n + m ≤ 1000000)
    (h : ∀ v' w', IStr w' w.heap.size v' (xs ++ news) → v' ≠ .slice none 0 0 → w.grownBy w' none → wpList Try.prog ops Q rest (a.put o.dst v') w') : wpList Try.prog ops Q (o :: rest) a w := by
  subst hn hm
  obtain ⟨i0, hi, hz0, hz1, hz2⟩ := info_parts infoInt2
  refine wpList_append_grows w hgd s x 26 ho 3 i0 _ 1 8 Try.underlying26 hi hz0 hz1 hz2 rfl (by decide) _ _ _ (xs.map (Value.int .i64)) hs (fun h => by cases h) (by simp) (fun b hb' => ?_) ad _ c (news.map (Value.int .i64)) hx (by simp) (news_int hc) (by
    intro u hu
    obtain ⟨b, _, rfl⟩ := List.mem_map.1 hu
    rfl) (by omega) (by unfold maxLen; omega) (by omega) fun v' w' h1 h2 => h v' w' ?_ (fun e => ?_) h2
  · cases hb'
    exact news_int fun k hk => by rw [show (⟨g, 0, none⟩ : Addr).add k = ⟨g, k, none⟩ by simp [Addr.add]; omega]; exact hcell k hk
  · unfold IStr
    rw [List.length_append, List.map_append]
    exact h1
  · subst e
    rcases h1.2 with ⟨_, h3⟩ | ⟨g', cap, cur, e', _⟩
    · omega
    · cases e'
def Row1I (w : World) (B : Nat) (v : Value) (zs : List Int) : Prop := IStr w B v zs ∧ v ≠ .slice none 0 0
theorem Row1I.form {w : World} {B : Nat} {v : Value} {xs : List Int} (h : Row1I w B v xs) : ∃ g c, v = .slice (some ⟨g, 0, none⟩) xs.length c ∧ xs.length ≤ c ∧ c ≤ maxLen ∧ B ≤ g ∧ g < w.heap.size ∧ ∀ k (hk : k < xs.length), w.cell? ⟨g, k, none⟩ = some (.int .i64 xs[k]) := by
  rcases h.1.2 with ⟨hv, _⟩ | ⟨g, cap, cur, hv, hb, hh, hc, hm, _⟩
  · exact absurd hv h.2
  · refine ⟨g, cap, hv, hc, hm, hb, ?_, fun k hk => ?_⟩
    · rcases Nat.lt_or_ge g w.heap.size with hlt | hge
      · exact hlt
      · rw [Array.getElem?_eq_none hge] at hh; cases hh
    · have h' := h.1
      unfold IStr at h'
      rw [hv] at h'
      have := World.ownsRow.cellAt h' k (by omega)
      rw [this]; simp [hk]
theorem IStr.mono {w : World} {B B' : Nat} {v : Value} {zs : List Int} (h : IStr w B v zs) (hb : B' ≤ B) : IStr w B' v zs := by
  unfold IStr World.ownsRow at h ⊢
  refine ⟨h.1, ?_⟩
  rcases h.2 with h' | ⟨g, cap, cur, h1, h2, h3⟩
  · exact .inl h'
  · exact .inr ⟨g, cap, cur, h1, Nat.le_trans hb h2, h3⟩
theorem sli_drop {w : World} {g c k : Nat} {xs : List Int} (h : ∀ k (hk : k < xs.length), w.cell? ⟨g, k, none⟩ = some (.int .i64 xs[k])) (hk : k ≤ xs.length) : SlI w (.slice (some ⟨g, k, none⟩) (xs.length - k) c) (xs.drop k) := by
  refine .inr ⟨⟨g, k, none⟩, c, by rw [List.length_drop], fun j hj => ?_⟩
  have hj' : k + j < xs.length := by rw [List.length_drop] at hj; omega
  have he : (⟨g, k, none⟩ : Addr).add j = ⟨g, k + j, none⟩ := by
    unfold Addr.add
    by_cases h0 : j = 0
    · subst h0; simp
    · simp [h0]
  rw [he, h _ hj', List.getElem_drop]
theorem ins_at {zs : List Int} {x : Int} {k : Nat} (hp : zs.Pairwise (fun a b => a < b)) (hk : k ≤ zs.length) (h1 : ∀ j (hj : j < zs.length), k ≤ j → x < zs[j]) (h2 : ∀ j (hj : j < zs.length), j < k → zs[j] < x) :
    (zs.take k ++ (x :: zs.drop k)).Pairwise (fun a b => a < b) ∧ ∀ z, z ∈ zs.take k ++ (x :: zs.drop k) ↔ z ∈ zs ∨ z = x := by
  refine ⟨?_, fun z => ?_⟩
  · rw [List.pairwise_append]
    refine ⟨hp.sublist (List.take_sublist _ _), ?_, fun a ha b hb => ?_⟩
    · rw [List.pairwise_cons]
      refine ⟨fun b hb => ?_, hp.sublist (List.drop_sublist _ _)⟩
      obtain ⟨i, hi, rfl⟩ := List.getElem_of_mem hb
      rw [List.getElem_drop]
      exact h1 _ _ (by omega)
    · obtain ⟨i, hi, rfl⟩ := List.getElem_of_mem ha
      have hi' : i < k ∧ i < zs.length := by rw [List.length_take] at hi; omega
      rw [List.getElem_take]
      have hax := h2 i hi'.2 hi'.1
      rcases List.mem_cons.1 hb with rfl | hb
      · exact hax
      · obtain ⟨j, hj, rfl⟩ := List.getElem_of_mem hb
        rw [List.getElem_drop]
        exact Int.lt_trans hax (h1 _ _ (by omega))
  · have hm : z ∈ zs ↔ z ∈ zs.take k ∨ z ∈ zs.drop k := by rw [← List.mem_append, List.take_append_drop]
    rw [List.mem_append, List.mem_cons, hm]
    constructor
    · rintro (h | rfl | h)
      · exact .inl (.inl h)
      · exact .inr rfl
      · exact .inl (.inr h)
    · rintro ((h | h) | rfl)
      · exact .inl h
      · exact .inr (.inr h)
      · exact .inr (.inl rfl)
set_option maxRecDepth 100000 in
set_option maxHeartbeats 4000000 in
theorem refNums_any (xs : List Sct) (A : Option Addr) (c : Nat) (st : Int) (w : World) (hR : RowC w A xs) (hb : xs.length ≤ 12) :
    Calls Try.prog 59 #[.slice A xs.length c, .int .i64 st] w fun e w' => ∃ v, e = .returned v ∧ ∃ zs, NumRes xs st zs ∧ IStr w' w.heap.size v zs ∧ Below w.heap.size w w' := by
  have HR := hide hR
  clear hR
  obtain ⟨B, hB⟩ : ∃ B, w.heap.size = B := ⟨_, rfl⟩
  have hr0 : Row1I (w.alloc (Obj.cells #[] 3)) B (.slice (some ⟨B, 0, none⟩) 0 0) [] := ⟨by
    subst hB
    exact World.ownsRow_made (base := w.heap.size) (e := 3) (size := 1) w #[] 0 (Nat.le_refl _) (by decide) rfl, by simp⟩
  have hB0 := (Below.refl B w).alloc (by omega) (Obj.cells #[] 3)
  go_enter Try.func59, Try.ntmps59
  go_wp2
  go_loopw [5, 6] (fun v iv wr => ∃ (v0 : Value) (i : Nat) (zs : List Int), v0 = v ∧ iv = .int .i64 i ∧ i ≤ xs.length ∧ Row1I wr B v0 zs ∧ zs.length ≤ i ∧ Hid (zs.Pairwise (fun a b => a < b) ∧ ∀ z, z ∈ zs ↔ z ∈ numsOf xs st i) ∧ Below B w wr) (fun _ iv _ => xs.length - (intOf iv).toNat)
  case atStart => exact ⟨_, 0, [], rfl, rfl, Nat.zero_le _, hr0, Nat.le_refl _, hide ⟨List.Pairwise.nil, fun z => by simp [numsOf]⟩, hB0⟩
  case round =>
    obtain ⟨v0, i, zs, rfl, rfl, hi, hrow, hzl, hZ, hBw⟩ := hrel
    clear hr0 hB0
    by_cases hlt : i < xs.length
    · have hRw := HR.out.below (by rw [hB]; exact hBw)
      have HRW := hide hRw
      obtain ⟨b0, o0, rfl, ha, hcell⟩ := hRw (by omega)
      obtain ⟨c0, c1, c2, Dd, cd, c3, hd⟩ := hcell i hlt
      have hi0 : (0 : Int) ≤ (i : Int) := by omega
      have hi1 : (i : Int) < (xs.length : Int) := by omega
      obtain ⟨ix, hix⟩ : ∃ z, z = xs[i].ix := ⟨_, rfl⟩
      obtain ⟨s1, hs1⟩ : ∃ z, z = xs[i].st := ⟨_, rfl⟩
      rw [← hix] at c0
      rw [← hs1] at c2
      have hBs : B ≤ wr.heap.size := by have := hBw.size; omega
      by_cases he : s1 = st
      · have HN := hide (numsOf_yes (st := st) hlt (by rw [← hs1]; exact he))
        have heb : (s1 != st) = false := by simpa using he
        obtain ⟨g, cv, rfl, hcv, hcvm, hBg, hgs, hzc⟩ := hrow.form
        have HROW := hide hrow
        have HZC := hide hzc
        have HC0 := hide c0
        have HIX := hide hix
        clear hcell hd he hix hs1 c1 c3 hrow hzc hRw
        obtain ⟨wo, rfl⟩ : ∃ wo : World, wo = wr := ⟨_, rfl⟩
        go_wp2
        go_loopw [7] (fun kv wr => ∃ (k q : Nat), kv = .int .i64 k ∧ k ≤ zs.length ∧ Hid (∀ j (hj : j < zs.length), j < k → zs[j] < ix) ∧ wr = wo.drewN q) (fun kv _ => zs.length - (intOf kv).toNat)
        case atStart => exact ⟨0, 0, rfl, Nat.zero_le _, hide fun j hj h => absurd h (by omega), rfl⟩
        case round =>
          obtain ⟨k, q, rfl, hk, hK, rfl⟩ := hrel
          have hk0 : (0 : Int) ≤ (k : Int) := by omega
          by_cases hkl : k < zs.length
          · have hk1 : (k : Int) < (zs.length : Int) := by omega
            have hkd : decide ((k : Int) < (zs.length : Int)) = true := decide_eq_true hk1
            have hkd2 : decide (k < zs.length) = true := decide_eq_true hkl
            have hke : ((k : Int) == (zs.length : Int)) = false := by rw [beq_eq_false_iff_ne]; omega
            have cz := HZC.out k hkl
            obtain ⟨o, ho⟩ : ∃ o, o = zs[k] := ⟨_, rfl⟩
            rw [← ho] at cz
            have HO := hide ho
            clear ho
            by_cases hox : o < ix
            · have hod : decide (o < ix) = true := decide_eq_true hox
              have HOX := hide hox
              clear hox
              go_wp2_with fail
              go_quiet (fail)
              go_wp2
              go_roundw
              case rel =>
                refine ⟨k + 1, q + nq, by go_num, hkl, hide fun j hj h => ?_, by simp⟩
                rcases Nat.lt_or_ge j k with h' | h'
                · exact hK.out j hj h'
                · obtain rfl : j = k := by omega
                  rw [← HO.out]; exact HOX.out
              case measure => simp [intOf]; omega
            · have hod : decide (o < ix) = false := decide_eq_false hox
              by_cases heq : o = ix
              · have hne : (o != ix) = false := by simpa using heq
                have HMM := hide (show ∀ z, z ∈ zs ↔ z ∈ numsOf xs st (i + 1) from fun z => by
                  rw [HN.out, List.mem_append, List.mem_singleton, ← hZ.out.2 z, ← HIX.out]
                  constructor
                  · exact .inl
                  · rintro (h | rfl)
                    · exact h
                    · rw [← heq, HO.out]; exact List.getElem_mem _)
                clear heq hox
                go_wp2_with fail
                go_quiet (fail)
                go_wp2_with fail
                go_quiet (fail)
                go_wp2
                go_roundw
                case rel => exact ⟨_, i + 1, zs, rfl, by go_num, hlt, HROW.out, by omega, hide ⟨hZ.out.1, HMM.out⟩, belowN hBw _⟩
                case measure => simp [intOf]; omega
              · have hne : (o != ix) = true := by simpa using heq
                have hRES := hide (ins_at (x := ix) hZ.out.1 hk (fun j hj h => by
                  have h1 : ix < zs[k] := by rw [← HO.out]; omega
                  rcases Nat.lt_or_ge k j with h' | h'
                  · exact Int.lt_trans h1 (List.pairwise_iff_getElem.1 hZ.out.1 k j hkl hj h')
                  · obtain rfl : j = k := by omega
                    exact h1) hK.out)
                have hcvk : ¬ cv = k := by omega
                have hkc : (k : Int) ≤ (cv : Int) := by omega
                have hkl2 : (k : Int) ≤ (zs.length : Int) := by omega
                clear heq hox
                go_wp2_with fail
                go_quiet (fail)
                revert nq
                intro nqA
                go_wp2_with fail
                go_quiet (fail)
                go_wp2_with fail
                have hsz0 : (wo.drewN (q + nqA + nq + 1)).heap.size = wo.heap.size := rfl
                have c0' : (wo.drewN (q + nqA + nq + 1)).cell? ⟨b0, o0 + i * 4, none⟩ = some (.int .i64 ix) := HC0.out
                have hrowL : IStr ((wo.drewN (q + nqA + nq + 1)).alloc (Obj.cells #[Value.int .i64 ix] 3)) B (.slice (some ⟨wo.heap.size, 0, none⟩) 1 1) [ix] := World.ownsRow_lit (base := B) (e := 3) (size := 1) (wo.drewN (q + nqA + nq + 1)) #[Value.int .i64 ix] 1 hBs (by decide) rfl
                have hBL : Below wo.heap.size (wo.drewN (q + nqA + nq + 1)) ((wo.drewN (q + nqA + nq + 1)).alloc (Obj.cells #[Value.int .i64 ix] 3)) := (Below.refl wo.heap.size (wo.drewN (q + nqA + nq + 1))).alloc (Nat.le_refl _) _
                have cL := (hBL.cell (p := ⟨b0, o0 + i * 4, none⟩) ha).trans c0'
                have hzL : ∀ j (hj : j < zs.length), ((wo.drewN (q + nqA + nq + 1)).alloc (Obj.cells #[Value.int .i64 ix] 3)).cell? ⟨g, j, none⟩ = some (.int .i64 zs[j]) := fun j hj => (hBL.cell (p := ⟨g, j, none⟩) hgs).trans (HZC.out j hj)
                have hslD : SlI ((wo.drewN (q + nqA + nq + 1)).alloc (Obj.cells #[Value.int .i64 ix] 3)) (.slice (some ⟨g, k, none⟩) (zs.length - k) (cv - k)) (zs.drop k) := sli_drop hzL hk
                have HSD := hide hslD
                have HRL := hide hrowL
                have HZL := hide hzL
                have HBL := hide hBL
                obtain ⟨ms, hms⟩ : ∃ ms, ms = [ix] ++ zs.drop (k) := ⟨_, rfl⟩
                have HMS := hide hms
                have HML := hide (show ms.length = 1 + (zs.length - k) by rw [hms]; simp <;> omega)
                clear hrowL hzL hslD hBL hms
                go_region_held3 (fun W => W.cell? ⟨b0, o0 + i * 4, none⟩ = some (.int .i64 ix)) (first | exact c0' | exact cL | exact d0) ((refine step_app_is (by rfl) _ _ (by rfl) B (.slice (some ⟨wo.heap.size, 0, none⟩) 1 1) [ix] (by rfl) HRL.out _ (zs.drop (k)) (by rfl) HSD.out (by simp <;> omega) (by have := HBL.out.size; omega) ?_; intro v2 w2 hown2 hg2 hn2; have hB2 := HBL.out.grown hg2 (by have := HBL.out.size; omega) (fun _ hk => by cases hk; exact Nat.le_refl _); have d0 := (hB2.cell (p := ⟨b0, o0 + i * 4, none⟩) ha).trans c0'))
                rw [← HMS.out] at hown2
                obtain ⟨g3, c3, rfl, _, _, _, hg3s, hc3⟩ := Row1I.form ⟨hown2, hn2 (by simp)⟩
                have HC3 := hide hc3
                have HZK := hide (show ∀ j (hj : j < (zs.take (k)).length), w2.cell? ⟨g, j, none⟩ = some (.int .i64 (zs.take (k))[j]) from fun j hj => by
                  have hj' : j < zs.length := by rw [List.length_take] at hj; omega
                  rw [List.getElem_take]
                  exact (hB2.cell (p := ⟨g, j, none⟩) hgs).trans (HZC.out j hj'))
                have hBz : Below B w w2 := (belowN hBw (q + nqA + nq + 1)).trans (hB2.mono hBs)
                have hBs2 : B ≤ w2.heap.size := by have := hBz.size; omega
                have HRS := hide (show (zs.take (k) ++ ms).Pairwise (fun a b => a < b) ∧ ∀ z, z ∈ zs.take (k) ++ ms ↔ z ∈ numsOf xs st (i + 1) from by
                  rw [HMS.out]
                  refine ⟨hRES.out.1, fun z => (hRES.out.2 z).trans ?_⟩
                  rw [HN.out, List.mem_append, List.mem_singleton, hZ.out.2 z, ← HIX.out])
                have hlen5 : (zs.take (k) ++ ms).length ≤ i + 1 := by have := HML.out; rw [List.length_append, List.length_take]; omega
                clear hc3 hown2 hg2 hn2 d0 hB2 hRES
                go_wp2_with (at_builtin; refine wpList_app_grow rfl _ _ rfl g (k) (zs.take (k)) rfl (by rw [List.length_take]; omega) HZK.out ⟨g3, 0, none⟩ ms.length c3 ms rfl rfl (fun j hj => by rw [show (⟨g3, 0, none⟩ : Addr).add j = ⟨g3, j, none⟩ by simp [Addr.add]; omega]; exact HC3.out j hj) (by have := HML.out; omega) (by have := HML.out; omega) ?_; intro v5 w5 hown5 hn5 hg5)
                have hr5 : Row1I w5 B v5 (zs.take (k) ++ ms) := ⟨hown5.mono hBs2, hn5⟩
                have hB5 := hBz.grown hg5 hBs2 (fun _ hk => by cases hk)
                clear hown5 hg5 hn5
                go_roundw
                case rel => exact ⟨v5, i + 1, _, rfl, by go_num, hlt, hr5, hlen5, HRS, hB5⟩
                case measure => simp [intOf]; omega
          · obtain rfl : k = zs.length := by omega
            have hkd : decide (((zs.length : Nat) : Int) < (zs.length : Int)) = false := decide_eq_false (by omega)
            have hkd2 : decide (zs.length < zs.length) = false := decide_eq_false (by omega)
            have hke : (((zs.length : Nat) : Int) == (zs.length : Int)) = true := by simp
            have hRES := hide (ins_at (x := ix) hZ.out.1 (Nat.le_refl _) (fun j hj h => absurd h (by omega)) (fun j hj h => hK.out j hj hj))
            have hkc : ((zs.length : Nat) : Int) ≤ (cv : Int) := by omega
            rcases Nat.lt_or_ge zs.length cv with hcvk | hcvk
            · have hcvk2 : ¬ cv = zs.length := by omega
              go_wp2_with fail
              go_quiet (fail)
              revert nq
              intro nqA
              go_wp2_with fail
              go_quiet (fail)
              go_wp2_with fail
              have hsz0 : (wo.drewN (q + nqA + nq + 1)).heap.size = wo.heap.size := rfl
              have c0' : (wo.drewN (q + nqA + nq + 1)).cell? ⟨b0, o0 + i * 4, none⟩ = some (.int .i64 ix) := HC0.out
              have hrowL : IStr ((wo.drewN (q + nqA + nq + 1)).alloc (Obj.cells #[Value.int .i64 ix] 3)) B (.slice (some ⟨wo.heap.size, 0, none⟩) 1 1) [ix] := World.ownsRow_lit (base := B) (e := 3) (size := 1) (wo.drewN (q + nqA + nq + 1)) #[Value.int .i64 ix] 1 hBs (by decide) rfl
              have hBL : Below wo.heap.size (wo.drewN (q + nqA + nq + 1)) ((wo.drewN (q + nqA + nq + 1)).alloc (Obj.cells #[Value.int .i64 ix] 3)) := (Below.refl wo.heap.size (wo.drewN (q + nqA + nq + 1))).alloc (Nat.le_refl _) _
              have cL := (hBL.cell (p := ⟨b0, o0 + i * 4, none⟩) ha).trans c0'
              have hzL : ∀ j (hj : j < zs.length), ((wo.drewN (q + nqA + nq + 1)).alloc (Obj.cells #[Value.int .i64 ix] 3)).cell? ⟨g, j, none⟩ = some (.int .i64 zs[j]) := fun j hj => (hBL.cell (p := ⟨g, j, none⟩) hgs).trans (HZC.out j hj)
              have hslD : SlI ((wo.drewN (q + nqA + nq + 1)).alloc (Obj.cells #[Value.int .i64 ix] 3)) (.slice (some ⟨g, zs.length, none⟩) 0 (cv - zs.length)) (zs.drop zs.length) := by rw [List.drop_length]; exact .inr ⟨_, _, rfl, fun k hk => absurd hk (by simp)⟩
              have HSD := hide hslD
              have HRL := hide hrowL
              have HZL := hide hzL
              have HBL := hide hBL
              obtain ⟨ms, hms⟩ : ∃ ms, ms = [ix] ++ zs.drop (zs.length) := ⟨_, rfl⟩
              have HMS := hide hms
              have HML := hide (show ms.length = 1 + (zs.length - zs.length) by rw [hms]; simp <;> omega)
              clear hrowL hzL hslD hBL hms
              go_region_held3 (fun W => W.cell? ⟨b0, o0 + i * 4, none⟩ = some (.int .i64 ix)) (first | exact c0' | exact cL | exact d0) ((refine step_app_is (by rfl) _ _ (by rfl) B (.slice (some ⟨wo.heap.size, 0, none⟩) 1 1) [ix] (by rfl) HRL.out _ (zs.drop (zs.length)) (by rfl) HSD.out (by simp <;> omega) (by have := HBL.out.size; omega) ?_; intro v2 w2 hown2 hg2 hn2; have hB2 := HBL.out.grown hg2 (by have := HBL.out.size; omega) (fun _ hk => by cases hk; exact Nat.le_refl _); have d0 := (hB2.cell (p := ⟨b0, o0 + i * 4, none⟩) ha).trans c0'))
              rw [← HMS.out] at hown2
              obtain ⟨g3, c3, rfl, _, _, _, hg3s, hc3⟩ := Row1I.form ⟨hown2, hn2 (by simp)⟩
              have HC3 := hide hc3
              have HZK := hide (show ∀ j (hj : j < (zs.take (zs.length)).length), w2.cell? ⟨g, j, none⟩ = some (.int .i64 (zs.take (zs.length))[j]) from fun j hj => by
                have hj' : j < zs.length := by rw [List.length_take] at hj; omega
                rw [List.getElem_take]
                exact (hB2.cell (p := ⟨g, j, none⟩) hgs).trans (HZC.out j hj'))
              have hBz : Below B w w2 := (belowN hBw (q + nqA + nq + 1)).trans (hB2.mono hBs)
              have hBs2 : B ≤ w2.heap.size := by have := hBz.size; omega
              have HRS := hide (show (zs.take (zs.length) ++ ms).Pairwise (fun a b => a < b) ∧ ∀ z, z ∈ zs.take (zs.length) ++ ms ↔ z ∈ numsOf xs st (i + 1) from by
                rw [HMS.out]
                refine ⟨hRES.out.1, fun z => (hRES.out.2 z).trans ?_⟩
                rw [HN.out, List.mem_append, List.mem_singleton, hZ.out.2 z, ← HIX.out])
              have hlen5 : (zs.take (zs.length) ++ ms).length ≤ i + 1 := by have := HML.out; rw [List.length_append, List.length_take]; omega
              clear hc3 hown2 hg2 hn2 d0 hB2 hRES
              go_wp2_with (at_builtin; refine wpList_app_grow rfl _ _ rfl g (zs.length) (zs.take (zs.length)) rfl (by rw [List.length_take]; omega) HZK.out ⟨g3, 0, none⟩ ms.length c3 ms rfl rfl (fun j hj => by rw [show (⟨g3, 0, none⟩ : Addr).add j = ⟨g3, j, none⟩ by simp [Addr.add]; omega]; exact HC3.out j hj) (by have := HML.out; omega) (by have := HML.out; omega) ?_; intro v5 w5 hown5 hn5 hg5)
              have hr5 : Row1I w5 B v5 (zs.take (zs.length) ++ ms) := ⟨hown5.mono hBs2, hn5⟩
              have hB5 := hBz.grown hg5 hBs2 (fun _ hk => by cases hk)
              clear hown5 hg5 hn5
              go_roundw
              case rel => exact ⟨v5, i + 1, _, rfl, by go_num, hlt, hr5, hlen5, HRS, hB5⟩
              case measure => simp [intOf]; omega
            · obtain rfl : cv = zs.length := by omega
              go_wp2_with fail
              go_quiet (fail)
              revert nq
              intro nqA
              go_wp2_with fail
              go_quiet (fail)
              go_wp2_with fail
              have hsz0 : (wo.drewN (q + nqA + nq + 1)).heap.size = wo.heap.size := rfl
              have c0' : (wo.drewN (q + nqA + nq + 1)).cell? ⟨b0, o0 + i * 4, none⟩ = some (.int .i64 ix) := HC0.out
              have hrowL : IStr ((wo.drewN (q + nqA + nq + 1)).alloc (Obj.cells #[Value.int .i64 ix] 3)) B (.slice (some ⟨wo.heap.size, 0, none⟩) 1 1) [ix] := World.ownsRow_lit (base := B) (e := 3) (size := 1) (wo.drewN (q + nqA + nq + 1)) #[Value.int .i64 ix] 1 hBs (by decide) rfl
              have hBL : Below wo.heap.size (wo.drewN (q + nqA + nq + 1)) ((wo.drewN (q + nqA + nq + 1)).alloc (Obj.cells #[Value.int .i64 ix] 3)) := (Below.refl wo.heap.size (wo.drewN (q + nqA + nq + 1))).alloc (Nat.le_refl _) _
              have cL := (hBL.cell (p := ⟨b0, o0 + i * 4, none⟩) ha).trans c0'
              have hzL : ∀ j (hj : j < zs.length), ((wo.drewN (q + nqA + nq + 1)).alloc (Obj.cells #[Value.int .i64 ix] 3)).cell? ⟨g, j, none⟩ = some (.int .i64 zs[j]) := fun j hj => (hBL.cell (p := ⟨g, j, none⟩) hgs).trans (HZC.out j hj)
              have hslD : SlI ((wo.drewN (q + nqA + nq + 1)).alloc (Obj.cells #[Value.int .i64 ix] 3)) (.slice (some ⟨g, 0, none⟩) 0 0) (zs.drop zs.length) := by rw [List.drop_length]; exact .inr ⟨_, _, rfl, fun k hk => absurd hk (by simp)⟩
              have HSD := hide hslD
              have HRL := hide hrowL
              have HZL := hide hzL
              have HBL := hide hBL
              obtain ⟨ms, hms⟩ : ∃ ms, ms = [ix] ++ zs.drop (zs.length) := ⟨_, rfl⟩
              have HMS := hide hms
              have HML := hide (show ms.length = 1 + (zs.length - zs.length) by rw [hms]; simp <;> omega)
              clear hrowL hzL hslD hBL hms
              go_region_held3 (fun W => W.cell? ⟨b0, o0 + i * 4, none⟩ = some (.int .i64 ix)) (first | exact c0' | exact cL | exact d0) ((refine step_app_is (by rfl) _ _ (by rfl) B (.slice (some ⟨wo.heap.size, 0, none⟩) 1 1) [ix] (by rfl) HRL.out _ (zs.drop (zs.length)) (by rfl) HSD.out (by simp <;> omega) (by have := HBL.out.size; omega) ?_; intro v2 w2 hown2 hg2 hn2; have hB2 := HBL.out.grown hg2 (by have := HBL.out.size; omega) (fun _ hk => by cases hk; exact Nat.le_refl _); have d0 := (hB2.cell (p := ⟨b0, o0 + i * 4, none⟩) ha).trans c0'))
              rw [← HMS.out] at hown2
              obtain ⟨g3, c3, rfl, _, _, _, hg3s, hc3⟩ := Row1I.form ⟨hown2, hn2 (by simp)⟩
              have HC3 := hide hc3
              have HZK := hide (show ∀ j (hj : j < (zs.take (zs.length)).length), w2.cell? ⟨g, j, none⟩ = some (.int .i64 (zs.take (zs.length))[j]) from fun j hj => by
                have hj' : j < zs.length := by rw [List.length_take] at hj; omega
                rw [List.getElem_take]
                exact (hB2.cell (p := ⟨g, j, none⟩) hgs).trans (HZC.out j hj'))
              have hBz : Below B w w2 := (belowN hBw (q + nqA + nq + 1)).trans (hB2.mono hBs)
              have hBs2 : B ≤ w2.heap.size := by have := hBz.size; omega
              have HRS := hide (show (zs.take (zs.length) ++ ms).Pairwise (fun a b => a < b) ∧ ∀ z, z ∈ zs.take (zs.length) ++ ms ↔ z ∈ numsOf xs st (i + 1) from by
                rw [HMS.out]
                refine ⟨hRES.out.1, fun z => (hRES.out.2 z).trans ?_⟩
                rw [HN.out, List.mem_append, List.mem_singleton, hZ.out.2 z, ← HIX.out])
              have hlen5 : (zs.take (zs.length) ++ ms).length ≤ i + 1 := by have := HML.out; rw [List.length_append, List.length_take]; omega
              clear hc3 hown2 hg2 hn2 d0 hB2 hRES
              go_wp2_with (at_builtin; refine wpList_app_grow rfl _ _ rfl g (zs.length) (zs.take (zs.length)) rfl (by rw [List.length_take]; omega) HZK.out ⟨g3, 0, none⟩ ms.length c3 ms rfl rfl (fun j hj => by rw [show (⟨g3, 0, none⟩ : Addr).add j = ⟨g3, j, none⟩ by simp [Addr.add]; omega]; exact HC3.out j hj) (by have := HML.out; omega) (by have := HML.out; omega) ?_; intro v5 w5 hown5 hn5 hg5)
              have hr5 : Row1I w5 B v5 (zs.take (zs.length) ++ ms) := ⟨hown5.mono hBs2, hn5⟩
              have hB5 := hBz.grown hg5 hBs2 (fun _ hk => by cases hk)
              clear hown5 hg5 hn5
              go_roundw
              case rel => exact ⟨v5, i + 1, _, rfl, by go_num, hlt, hr5, hlen5, HRS, hB5⟩
              case measure => simp [intOf]; omega
      · have HN := hide (numsOf_no (st := st) hlt (by rw [← hs1]; exact he))
        have heb : (s1 != st) = true := by simpa using he
        clear hcell hd he hix hs1
        go_wp2
        go_roundw
        case rel => exact ⟨v0, i + 1, zs, rfl, by go_num, hlt, hrow, by omega, hide (by rw [HN.out]; exact hZ.out), hBw⟩
        case measure => simp [intOf]; omega
    · obtain rfl : i = xs.length := by omega
      go_wp2
      go_ret
      exact ⟨v0, rfl, zs, hZ.out, by first | exact hrow.1 | (rw [hB]; exact hrow.1), by first | exact hBw | (rw [hB]; exact hBw)⟩
end Go.Proofs.Ytmajalpmbppkpaa
