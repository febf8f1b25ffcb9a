/- Contract of tenengolts.Correct: any numbers and any string (a range over the iterator candidates). -/
import Derived.Test.YtijeogengbphdaaCandI
set_option linter.unusedVariables false
namespace Go.Proofs.Ytijeogengbphdaa
open Go.RowKit Go.Shelf
attribute [local go_sem] Oper.semAt_some

theorem cell_later {w : World} {b : Nat} {v : Value} (h : w.cell? ⟨b, 0, none⟩ = some v) (o : Obj) : (w.alloc o).cell? ⟨b, 0, none⟩ = some v := (World.cell?_alloc_lt w o ⟨b, 0, none⟩ (World.block_lt_of_cell? w _ h)).trans h
theorem below_drewN {B : Nat} {a w : World} (h : Below B a w) (n : Nat) : Below B a (w.drewN n) := ⟨h.os, h.tape, h.output, h.size, h.block⟩
abbrev Short := { b : ByteArray // b.size ≤ 70000 }
theorem candsf_stops (m : Nat) (hm : 1 ≤ m) (n : Int) (s : ByteArray) (h1 : n - 1 ≤ (s.size : Int)) (h2 : (s.size : Int) ≤ n + 1) (hn : s.size ≤ 30000) (bs bn n₀ : Nat) (hbs : bs < n₀) (hbn : bn < n₀) (w : World) (h0 : n₀ ≤ w.heap.size)
    (hcs : w.cell? ⟨bs, 0, none⟩ = some (.string s)) (hcn : w.cell? ⟨bn, 0, none⟩ = some (.int .i64 n)) :
    SeqStopsK Fence.wide m Try.prog 72 #[.pointer (some ⟨bs, 0, none⟩), .pointer (some ⟨bn, 0, none⟩)] (fun x : Short => #[.string x.1]) (Below n₀) (fun ys => ys.map (·.1) = cands n s) (fun pre => pre.map (·.1) <+: cands n s) (cands n s).length w := by
  intro l J Jx W hB hJ hJx hY hI
  have c1 : W.cell? ⟨bs, 0, none⟩ = some (.string s) := (hB.cell (p := ⟨bs, 0, none⟩) (Nat.lt_of_lt_of_le hbs h0)).trans hcs
  have c2 : W.cell? ⟨bn, 0, none⟩ = some (.int .i64 n) := (hB.cell (p := ⟨bn, 0, none⟩) (Nat.lt_of_lt_of_le hbn h0)).trans hcn
  have hJ2 : AbidesFrom W.heap.size (fun (pre : List ByteArray) W => ∃ p : List Short, p.map (·.1) = pre ∧ J p W) := fun pre A B row ⟨p, hp, hj⟩ hg hr => ⟨p, hp, hJ p A B row hj hg hr⟩
  have hY2 : ∀ (pre : List ByteArray) (x : ByteArray) (W1 : World), x.size ≤ 70000 → (∃ p : List Short, p.map (·.1) = pre ∧ J p W1) → pre.length < (cands n s).length → YieldAt Fence.wide (m - 1) Try.prog l #[.string x] W1 fun e W' =>
      (e = .returned (.bool true) ∧ (∃ p : List Short, p.map (·.1) = pre ++ [x] ∧ J p W') ∧ Below n₀ W1 W') ∨ (e = .returned (.bool false) ∧ (∃ p : List Short, p.map (·.1) = pre ++ [x] ∧ Jx p W')) := fun pre x W1 hx ⟨p, hp, hj⟩ hl => by
    refine (hY p ⟨x, hx⟩ W1 hj (by rw [← hp] at hl; simpa using hl)).mono ?_
    rintro e W' (⟨he, h1, h2⟩ | ⟨he, h1⟩)
    · exact .inl ⟨he, ⟨_, by rw [List.map_append, hp]; rfl, h1⟩, h2⟩
    · exact .inr ⟨he, _, by rw [List.map_append, hp]; rfl, h1⟩
  have fin := fun (h : CallsIn Fence.wide m Try.prog 72 #[.func (.yield l) #[] #[], .pointer (some ⟨bs, 0, none⟩), .pointer (some ⟨bn, 0, none⟩)] W fun e W' => (∃ v, e = .returned v) ∧
      ((∃ ys, ys = cands n s ∧ (∃ p : List Short, p.map (·.1) = ys ∧ J p W')) ∨ (∃ pre, pre <+: cands n s ∧ (∃ p : List Short, p.map (·.1) = pre ∧ Jx p W')))) =>
    h.mono (R' := fun e W' => (∃ v, e = .returned v) ∧ ((∃ xs : List Short, xs.map (·.1) = cands n s ∧ J xs W') ∨ (∃ pre : List Short, pre.map (·.1) <+: cands n s ∧ Jx pre W'))) (by
      rintro e W' ⟨hv, (⟨ys, rfl, p, hp, hj⟩ | ⟨pre, hpre, p, rfl, hj⟩)⟩
      · exact ⟨hv, .inl ⟨p, hp, hj⟩⟩
      · exact ⟨hv, .inr ⟨p, hpre, hj⟩⟩)
  refine fin ?_
  by_cases ha : (s.size : Int) = n
  · exact candsf_same m hm n s ha hn l bs bn n₀ hbs hbn _ (fun pre W => ∃ p : List Short, p.map (·.1) = pre ∧ Jx p W) hY2 W c1 c2 ⟨[], rfl, hI⟩
  · by_cases hb : (s.size : Int) = n + 1
    · exact candsf_del m hm n s hb hn l bs bn n₀ hbs hbn _ (fun pre W => ∃ p : List Short, p.map (·.1) = pre ∧ Jx p W) _ hJ2 hY2 W c1 c2 ⟨[], rfl, hI⟩
    · exact candsf_ins m hm n s (by omega) hn l bs bn n₀ hbs hbn _ (fun pre W => ∃ p : List Short, p.map (·.1) = pre ∧ Jx p W) _ hJ2 hY2 W c1 c2 ⟨[], rfl, hI⟩

theorem pick_none {a : Int} {l : List ByteArray} (h : ∀ u ∈ l, ((synd u.data.toList : Nat) : Int) ≠ a) : pick a l = (⟨#[]⟩, 22) :=
  pick_miss fun j hj => h _ (List.getElem_mem hj)
theorem pick_some {a : Int} {l pre : List ByteArray} {u : ByteArray} (hp : pre ++ [u] <+: l) (h : ∀ u ∈ pre, ((synd u.data.toList : Nat) : Int) ≠ a) (hu : ((synd u.data.toList : Nat) : Int) = a) : pick a l = (u, 0) := by
  obtain ⟨t, rfl⟩ := hp
  have hf : (pre ++ [u] ++ t).find? (fun u => ((synd u.data.toList : Nat) : Int) == a) = some u := by
    rw [List.append_assoc, List.find?_append, List.find?_eq_none.2 (fun x hx => by simpa using h x hx)]
    simp [hu]
  unfold pick; rw [hf]

set_option maxRecDepth 100000 in
set_option maxHeartbeats 2000000 in
theorem tcor_go (n a : Int) (s : ByteArray) (w : World) (ht : tck n a = 0) (hc : chk 2 s.data.toList = 0) (h1 : ¬ (s.size : Int) < n - 1) (h2 : ¬ n + 1 < (s.size : Int)) :
    CallsIn Fence.wide 4 Try.prog 12 #[.int .i64 n, .int .i64 a, .string s] w fun e w' => e = .returned (.tuple #[.string (corr n a s).1, .int .i64 (corr n a s).2]) ∧ Below w.heap.size w w' := by
  have hb := tck_bounds ht
  have HR := hide (corr_go ht hc h1 h2)
  have HT := hide ht
  have HC := hide hc
  clear ht hc
  obtain ⟨nn, rfl⟩ := Int.eq_ofNat_of_zero_le hb.1
  have hn : nn ≤ 64 := by omega
  have d1 : decide ((s.size : Int) < (nn : Int) - 1) = false := by simpa using h1
  have d2 : decide ((nn : Int) + 1 < (s.size : Int)) = false := by simpa using h2
  refine callsIn_of_wp_marks Try.func12 rfl trivial ?_ rfl
  simp only [Try.ntmps12, List.size_toArray, List.length_cons, List.length_nil, Nat.reduceAdd, Nat.reduceSub, Array.replicate_succ, Array.replicate_zero, List.push_toArray, List.append_toArray, List.nil_append, List.cons_append]
  gi_wp2_with (first
    | (refine ⟨trivial, ?_⟩; gi_at_call 39; refine (callsIn_wide.2 (tchk_any _ _ _)).mono ?_; rintro e w' ⟨rfl, rfl⟩; rw [HT.out])
    | (refine ⟨trivial, ?_⟩; gi_at_call 40; refine (callsIn_wide.2 (wcheck_any _ _ _)).mono ?_; rintro e w' ⟨rfl, q, rfl⟩; rw [HC.out])
    | (refine ⟨trivial, ?_⟩; gi_at_call 41; refine (cands_in _ _ _).mono ?_; rintro e w' ⟨rfl, rfl⟩))
  obtain ⟨W0, hW0⟩ : ∃ W0, ((((((w.alloc (Obj.cells #[Value.int IntKind.i64 a] 3)).alloc (Obj.cells #[Value.string { data := #[] }] 9)).alloc (Obj.cells #[Value.int IntKind.i64 0] 23)).drewN q).alloc (Obj.cells #[Value.int IntKind.i64 (nn : Int)] 3)).alloc (Obj.cells #[Value.string s] 9)) = W0 := ⟨_, rfl⟩
  rw [hW0]
  have hsz : W0.heap.size = w.heap.size + 5 := by rw [← hW0]; simp
  have hB0 : Below w.heap.size w W0 := by
    rw [← hW0]
    exact ((below_drewN ((((Below.refl _ _).alloc (Nat.le_refl _) _).alloc (by simp) _).alloc (by simp; omega) _) q).alloc (by simp; omega) _).alloc (by simp; omega) _
  have hc0 : W0.cell? ⟨w.heap.size, 0, none⟩ = some (.int .i64 a) := by rw [← hW0]; simp [go_sem]
  have hc1 : W0.cell? ⟨w.heap.size + 1, 0, none⟩ = some (.string ⟨#[]⟩) ∧ W0.frozen? ⟨w.heap.size + 1, 0, none⟩ = false := by rw [← hW0]; simp [go_sem]
  have hc2 : W0.cell? ⟨w.heap.size + 1 + 1, 0, none⟩ = some (.int .i64 0) ∧ W0.frozen? ⟨w.heap.size + 1 + 1, 0, none⟩ = false := by rw [← hW0]; simp [go_sem]
  have hc3 : W0.cell? ⟨w.heap.size + 1 + 1 + 1, 0, none⟩ = some (.int .i64 (nn : Int)) := by rw [← hW0]; simp [go_sem]
  have hc4 : W0.cell? ⟨w.heap.size + 1 + 1 + 1 + 1, 0, none⟩ = some (.string s) := by rw [← hW0]; simp [go_sem]
  clear hW0
  refine wpIn_rangeFunc_ownF rfl (by omega) (gf := 72) (lb := #[.pointer (some ⟨w.heap.size + 1 + 1 + 1 + 1, 0, none⟩), .pointer (some ⟨w.heap.size + 1 + 1 + 1, 0, none⟩)]) rfl trivial (enters_of Try.func72 (by kernel_rfl) rfl)
    (candsf_stops 3 (by omega) (nn : Int) s (by omega) (by omega) (by omega) (w.heap.size + 1 + 1 + 1 + 1) (w.heap.size + 1 + 1 + 1) (w.heap.size + 5) (by omega) (by omega) W0 (by omega) hc4 hc3) belowK_t (belowK_b (by omega)) (Below.refl _ _) (fun _ => rfl)
    (fun pre W => ((∀ y ∈ pre, ((synd y.1.data.toList : Nat) : Int) ≠ a) ∧ W.cell? ⟨w.heap.size, 0, none⟩ = some (.int .i64 a) ∧ W.cell? ⟨w.heap.size + 1, 0, none⟩ = some (.string ⟨#[]⟩) ∧ W.frozen? ⟨w.heap.size + 1, 0, none⟩ = false ∧ W.cell? ⟨w.heap.size + 1 + 1, 0, none⟩ = some (.int .i64 0) ∧ W.frozen? ⟨w.heap.size + 1 + 1, 0, none⟩ = false) ∧ Below w.heap.size w W)
    (fun c pre W => (c = .ret ∧ ∃ (p : List Short) (u : Short), pre = p ++ [u] ∧ (∀ y ∈ p, ((synd y.1.data.toList : Nat) : Int) ≠ a) ∧ ((synd u.1.data.toList : Nat) : Int) = a ∧ W.cell? ⟨w.heap.size + 1, 0, none⟩ = some (.string u.1) ∧ W.cell? ⟨w.heap.size + 1 + 1, 0, none⟩ = some (.int .i64 0)) ∧ Below w.heap.size w W)
    (OwnFrom.and (Own.from (fun s A B row hs hg hr => ⟨hs.1, cell_kept hs.2.1 hg hr, cell_kept hs.2.2.1 hg hr, (frozen_kept hs.2.2.1 hg hr).trans hs.2.2.2.1, cell_kept hs.2.2.2.2.1 hg hr, (frozen_kept hs.2.2.2.2.1 hg hr).trans hs.2.2.2.2.2⟩) _) (ownFrom_below (Nat.le_refl _) (by omega)))
    (fun c => OwnFrom.and (Own.from (fun s A B row hs hg hr => by
      obtain ⟨h1, p, u, h2, h3, h4, h5, h6⟩ := hs
      exact ⟨h1, p, u, h2, h3, h4, cell_kept h5 hg hr, cell_kept h6 hg hr⟩) _) (ownFrom_below (Nat.le_refl _) (by omega)))
    ⟨⟨by simp, hc0, hc1.1, hc1.2, hc2.1, hc2.2⟩, hB0⟩
    (fun x => { tmps := #[.int .i64 (nn : Int), .int .i64 a, .string s, undef, .pointer (some ⟨w.heap.size, 0, none⟩), undef, .pointer (some ⟨w.heap.size + 1, 0, none⟩), .pointer (some ⟨w.heap.size + 1 + 1, 0, none⟩), .int .i64 0, .int .i64 0, .string x.1, .int .i64 (nn : Int), .int .i64 a, .int .i64 0, .int .i64 0, .bool false, undef, .string s, .int .i64 0, .int .i64 0, .bool false, undef, .string s, .int .i64 (s.size : Int), .int .i64 (nn : Int), .int .i64 ((nn : Int) - 1), .bool false, .bool false, .string s, .int .i64 (s.size : Int), .int .i64 (nn : Int), .int .i64 ((nn : Int) + 1), .bool false, .bool false, .int .i64 (nn : Int), .string s, .func (.func 72) #[] #[.pointer (some ⟨w.heap.size + 1 + 1 + 1 + 1, 0, none⟩), .pointer (some ⟨w.heap.size + 1 + 1 + 1, 0, none⟩)], .string x.1, undef, undef, undef, undef, undef], defers := [] }) ?assign ?body ?done ?stop
  case assign =>
    intro l x W K hK
    gi_wp2
    exact hK
  case body =>
    rintro l pre x W ⟨⟨hp, hca, hcr, hfr, hce, hfe⟩, hB⟩ _
    have hmx : Try.prog.follows .mixedOrders = true := by kernel_rfl
    have hx2 := x.2
    by_cases hy : ((synd x.1.data.toList : Nat) : Int) = a
    · have hyb : (((synd x.1.data.toList : Nat) : Int) == a) = true := by simpa using hy
      have HY := hide hy
      have HP := hide hp
      clear hy hp
      gi_wp2
      gi_region_with_o (refine ⟨trivial, ?_⟩; gi_at_call 42; refine (CallsIn.inRound l (callsIn_wide.2 (tsynd_any x.1 _ hx2))).mono ?_; rintro e w' ⟨rfl, rfl⟩)
      all_goals gi_wp2
      all_goals
        refine ⟨((KeepsOthers.setCell _ _ _).trans (KeepsOthers.setCell _ _ _)).trans (KeepsOthers.drew _), ⟨rfl, pre, x, rfl, HP.out, HY.out, ?_, ?_⟩, ((hB.setCell (p := ⟨w.heap.size + 1, 0, none⟩) (by simp) _).setCell (p := ⟨w.heap.size + 1 + 1, 0, none⟩) (by simp; omega) _).drew⟩
        · exact (World.cell?_setCell_other (W.setCell ⟨w.heap.size + 1, 0, none⟩ (.string x.1)) ⟨w.heap.size + 1 + 1, 0, none⟩ ⟨w.heap.size + 1, 0, none⟩ (.int .i64 0) (by simp)).trans (World.cell?_setCell_same' W ⟨w.heap.size + 1, 0, none⟩ (.string x.1) (by rw [hcr]; rfl))
        · exact World.cell?_setCell_same' (W.setCell ⟨w.heap.size + 1, 0, none⟩ (.string x.1)) ⟨w.heap.size + 1 + 1, 0, none⟩ (.int .i64 0) (by rw [World.cell?_setCell_other W ⟨w.heap.size + 1, 0, none⟩ ⟨w.heap.size + 1 + 1, 0, none⟩ (.string x.1) (by simp), hce]; rfl)
    · have hyb : (((synd x.1.data.toList : Nat) : Int) == a) = false := by simpa using hy
      have HY := hide hy
      have HP := hide hp
      clear hy hp
      gi_wp2
      gi_region_with_o (refine ⟨trivial, ?_⟩; gi_at_call 42; refine (CallsIn.inRound l (callsIn_wide.2 (tsynd_any x.1 _ hx2))).mono ?_; rintro e w' ⟨rfl, rfl⟩)
      all_goals gi_wp2
      all_goals
        refine ⟨KeepsOthers.drew _, (Below.refl _ _).drew, ⟨?_, hca, hcr, hfr, hce, hfe⟩, hB.drew⟩
        intro y hy
        rcases List.mem_append.1 hy with h | h
        · exact HP.out y h
        · have : y = x := by simpa using h
          rw [this]; exact HY.out
  case done =>
    rintro D ys W hD hys ⟨⟨hne, hca, hcr, hfr, hce, hfe⟩, hB⟩ hK
    have HF := hide (pick_none (a := a) (l := cands (nn : Int) s) (fun u hu => by
      rw [← hys] at hu
      obtain ⟨y, hy, rfl⟩ := List.mem_map.1 hu
      exact hne y hy))
    clear hys hne
    gi_wp2
    have hK' := (((KeepsOthers.setCell W ⟨w.heap.size + 1, 0, none⟩ (.string ⟨#[]⟩)).trans (KeepsOthers.setCell _ ⟨w.heap.size + 1 + 1, 0, none⟩ (.int .i64 22)))).same D _ hK rfl
    refine ⟨by simp, .inl ⟨_, _, rfl, run_takeDeferred hK', ?_⟩⟩
    have e1 : ((W.setCell ⟨w.heap.size + 1, 0, none⟩ (.string ⟨#[]⟩)).setCell ⟨w.heap.size + 1 + 1, 0, none⟩ (.int .i64 22)).cell? ⟨w.heap.size + 1, 0, none⟩ = some (.string ⟨#[]⟩) :=
      (World.cell?_setCell_other (W.setCell ⟨w.heap.size + 1, 0, none⟩ (.string ⟨#[]⟩)) ⟨w.heap.size + 1 + 1, 0, none⟩ ⟨w.heap.size + 1, 0, none⟩ (.int .i64 22) (by simp)).trans (World.cell?_setCell_same' W ⟨w.heap.size + 1, 0, none⟩ (.string ⟨#[]⟩) (by rw [hcr]; rfl))
    have e2 : ((W.setCell ⟨w.heap.size + 1, 0, none⟩ (.string ⟨#[]⟩)).setCell ⟨w.heap.size + 1 + 1, 0, none⟩ (.int .i64 22)).cell? ⟨w.heap.size + 1 + 1, 0, none⟩ = some (.int .i64 22) :=
      World.cell?_setCell_same' (W.setCell ⟨w.heap.size + 1, 0, none⟩ (.string ⟨#[]⟩)) ⟨w.heap.size + 1 + 1, 0, none⟩ (.int .i64 22) (by rw [World.cell?_setCell_other W ⟨w.heap.size + 1, 0, none⟩ ⟨w.heap.size + 1 + 1, 0, none⟩ (.string ⟨#[]⟩) (by simp), hce]; rfl)
    have e3 := cell_kept e1 (grownBy_putObj' _ D (.deferred none)) (fun r e => by cases e; exact ⟨_, hK', rfl⟩)
    have e4 := cell_kept e2 (grownBy_putObj' _ D (.deferred none)) (fun r e => by cases e; exact ⟨_, hK', rfl⟩)
    have hB2 := ((hB.setCell (p := ⟨w.heap.size + 1, 0, none⟩) (by simp) (.string ⟨#[]⟩)).setCell (p := ⟨w.heap.size + 1 + 1, 0, none⟩) (by simp; omega) (.int .i64 22)).trans (belowK_b (w := w) (Nat.le_refl _) _ D _ (.deferred none) (by omega) hK' rfl rfl)
    refine ⟨.tuple #[.string ⟨#[]⟩, .int .i64 22], ?_, by rw [HR.out, HF.out], hB2⟩
    simp [results, Try.f12, go_sem, e3, e4]
  case stop =>
    rintro D c pre W hD hpre ⟨⟨rfl, p, u, rfl, hp, hu, hcr, hce⟩, hB⟩ hK
    have HF := hide (pick_some (a := a) (l := cands (nn : Int) s) (pre := p.map (·.1)) (u := u.1) (by simpa using hpre) (fun y hy => by
      obtain ⟨z, hz, rfl⟩ := List.mem_map.1 hy
      exact hp z hz) hu)
    clear hpre hp hu
    gi_wp2
    refine ⟨by simp, .inl ⟨_, _, rfl, run_takeDeferred hK, ?_⟩⟩
    have e3 := cell_kept hcr (grownBy_putObj' _ D (.deferred none)) (fun r e => by cases e; exact ⟨_, hK, rfl⟩)
    have e4 := cell_kept hce (grownBy_putObj' _ D (.deferred none)) (fun r e => by cases e; exact ⟨_, hK, rfl⟩)
    refine ⟨.tuple #[.string u.1, .int .i64 0], ?_, by rw [HR.out, HF.out], hB.trans (belowK_b (w := w) (Nat.le_refl _) W D _ _ (by omega) hK rfl rfl)⟩
    simp [results, Try.f12, go_sem, e3, e4]

set_option maxRecDepth 100000 in
set_option maxHeartbeats 400000 in
theorem tcor_any (n a : Int) (s : ByteArray) (w : World) :
    Calls Try.prog 12 #[.int .i64 n, .int .i64 a, .string s] w fun e w' => e = .returned (.tuple #[.string (corr n a s).1, .int .i64 (corr n a s).2]) ∧ Below w.heap.size w w' := by
  by_cases ht : tck n a = 0
  · have hb := tck_bounds ht
    by_cases hc : chk 2 s.data.toList = 0
    · by_cases hl : (s.size : Int) < n - 1 ∨ n + 1 < (s.size : Int)
      · have HR := hide (show corr n a s = (⟨#[]⟩, 11) by unfold corr; rw [if_neg (by simp [ht]), if_neg (by simp [hc]), if_pos hl])
        have HT := hide ht
        have HC := hide hc
        obtain ⟨n, rfl⟩ := Int.eq_ofNat_of_zero_le hb.1
        have hn : n ≤ 64 := by omega
        clear ht hc hb
        by_cases h1 : (s.size : Int) < (n : Int) - 1
        · clear hl
          go_enter Try.func12, Try.ntmps12
          go_wp2_with (first | (go_at_call 39; refine (tchk_any _ _ _).mono ?_; rintro e w' ⟨rfl, rfl⟩; rw [HT.out]) | (go_at_call 40; refine (wcheck_any _ _ _).mono ?_; rintro e w' ⟨rfl, q, rfl⟩; rw [HC.out]))
          refine bodyPost_ret (v := .tuple #[.string ⟨#[]⟩, .int .i64 11]) (by simp [results, Try.results12, go_sem]) rfl ⟨by rw [HR.out], ?_⟩
          exact ((below_drewN ((((Below.refl _ _).alloc (Nat.le_refl _) _).alloc (by simp) _).alloc (by simp; omega) _) _).setCell (p := ⟨w.heap.size + 1, 0, none⟩) (by simp) _).setCell (p := ⟨w.heap.size + 1 + 1, 0, none⟩) (by simp; omega) _
        · have h2 : (n : Int) + 1 < (s.size : Int) := by omega
          clear hl
          go_enter Try.func12, Try.ntmps12
          go_wp2_with (first | (go_at_call 39; refine (tchk_any _ _ _).mono ?_; rintro e w' ⟨rfl, rfl⟩; rw [HT.out]) | (go_at_call 40; refine (wcheck_any _ _ _).mono ?_; rintro e w' ⟨rfl, q, rfl⟩; rw [HC.out]))
          refine bodyPost_ret (v := .tuple #[.string ⟨#[]⟩, .int .i64 11]) (by simp [results, Try.results12, go_sem]) rfl ⟨by rw [HR.out], ?_⟩
          exact ((below_drewN ((((Below.refl _ _).alloc (Nat.le_refl _) _).alloc (by simp) _).alloc (by simp; omega) _) _).setCell (p := ⟨w.heap.size + 1, 0, none⟩) (by simp) _).setCell (p := ⟨w.heap.size + 1 + 1, 0, none⟩) (by simp; omega) _
      · exact callsIn_wide.1 (tcor_go n a s w ht hc (by omega) (by omega))
    · have HR := hide (show corr n a s = (⟨#[]⟩, chk 2 s.data.toList) by unfold corr; rw [if_neg (by simp [ht]), if_pos hc])
      have HT := hide ht
      obtain ⟨c, hcc⟩ : ∃ c, c = chk 2 s.data.toList := ⟨_, rfl⟩
      rw [← hcc] at hc HR
      have HCC := hide hcc
      have hcb : (c != 0) = true := by simpa using hc
      clear ht hc hcc hb
      go_enter Try.func12, Try.ntmps12
      go_wp2_with (first | (go_at_call 39; refine (tchk_any _ _ _).mono ?_; rintro e w' ⟨rfl, rfl⟩; rw [HT.out]) | (go_at_call 40; refine (wcheck_any _ _ _).mono ?_; rintro e w' ⟨rfl, q, rfl⟩; rw [← HCC.out]))
      refine bodyPost_ret (v := .tuple #[.string ⟨#[]⟩, .int .i64 c]) (by simp [results, Try.results12, go_sem]) rfl ⟨by rw [HR.out], ?_⟩
      exact ((below_drewN ((((Below.refl _ _).alloc (Nat.le_refl _) _).alloc (by simp) _).alloc (by simp; omega) _) _).setCell (p := ⟨w.heap.size + 1, 0, none⟩) (by simp) _).setCell (p := ⟨w.heap.size + 1 + 1, 0, none⟩) (by simp; omega) _
  · have HR := hide (show corr n a s = (⟨#[]⟩, 2) by unfold corr; rw [if_pos ht])
    have HT := hide (show tck n a = 2 by unfold tck at ht ⊢; split at ht <;> simp_all)
    clear ht
    go_enter Try.func12, Try.ntmps12
    go_wp2_with (go_at_call 39; refine (tchk_any _ _ _).mono ?_; rintro e w' ⟨rfl, rfl⟩; rw [HT.out])
    refine bodyPost_ret (v := .tuple #[.string ⟨#[]⟩, .int .i64 2]) (by simp [results, Try.results12, go_sem]) rfl ⟨by rw [HR.out], ?_⟩
    exact (((Below.refl _ _).alloc (Nat.le_refl _) _).alloc (by simp) _).alloc (by simp; omega) _
end Go.Proofs.Ytijeogengbphdaa
