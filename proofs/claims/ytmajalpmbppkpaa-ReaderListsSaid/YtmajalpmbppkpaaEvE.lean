/- slices.Equal at lists of events. -/
import Derived.Test.YtmajalpmbppkpaaScr
import Derived.Laws.StructEq
set_option linter.unusedVariables false
namespace Go.Proofs.Ytmajalpmbppkpaa
open Go.RowKit
def EvAt (w : World) (g : Nat) (xs : List Ev) : Prop := ∀ k (hk : k < xs.length), w.cell? ⟨g, k * 4, none⟩ = some (.int .i64 xs[k].kind) ∧ w.cell? ⟨g, k * 4 + 1, none⟩ = some (.int .i64 xs[k].at_) ∧ w.cell? ⟨g, k * 4 + 2, none⟩ = some (.int .i64 xs[k].len) ∧ w.cell? ⟨g, k * 4 + 3, none⟩ = some (.int .i64 xs[k].letter)
def RdE (w : World) (v : Value) (xs : List Ev) : Prop := (xs = [] ∧ ∃ A c, v = .slice A 0 c) ∨ ∃ g c, v = .slice (some ⟨g, 0, none⟩) xs.length c ∧ EvAt w g xs
theorem Ev.ext_ {a b : Ev} (h1 : a.kind = b.kind) (h2 : a.at_ = b.at_) (h3 : a.len = b.len) (h4 : a.letter = b.letter) : a = b := by
  cases a; cases b; simp_all
theorem ev_fields : ∃ f0 f1 f2 f3 : Field, (Try.prog.fieldsOf 47).toList = [f0, f1, f2, f3] ∧ (f0.name ≠ "_" ∧ f0.type = 3 ∧ f0.offset = 0) ∧ (f1.name ≠ "_" ∧ f1.type = 3 ∧ f1.offset = 1) ∧ (f2.name ≠ "_" ∧ f2.type = 3 ∧ f2.offset = 2) ∧ (f3.name ≠ "_" ∧ f3.type = 3 ∧ f3.offset = 3) := by
  have h : (Try.prog.fieldsOf 47).toList.map (fun f => (decide (f.name ≠ "_"), f.type, f.offset)) = [(true, 3, 0), (true, 3, 1), (true, 3, 2), (true, 3, 3)] := by kernel_rfl
  match hl : (Try.prog.fieldsOf 47).toList with
  | [f0, f1, f2, f3] =>
    rw [hl] at h
    simp at h
    exact ⟨f0, f1, f2, f3, rfl, h.1, h.2.1, h.2.2.1, h.2.2.2⟩
  | [] | [_] | [_, _] | [_, _, _] | _ :: _ :: _ :: _ :: _ :: _ => rw [hl] at h; simp at h
theorem ev_eqd (d : Nat) (W : World) (a b : Ev) : (Op.equalIn (d + 1 + 1) 47 (.agg #[.int .i64 a.kind, .int .i64 a.at_, .int .i64 a.len, .int .i64 a.letter]) (.agg #[.int .i64 b.kind, .int .i64 b.at_, .int .i64 b.len, .int .i64 b.letter])).run Try.prog W = .ok (a.kind == b.kind && (a.at_ == b.at_ && (a.len == b.len && a.letter == b.letter))) W := by
  obtain ⟨f0, f1, f2, f3, hf, ⟨n0, t0, o0⟩, ⟨n1, t1, o1⟩, ⟨n2, t2, o2⟩, ⟨n3, t3, o3⟩⟩ := ev_fields
  rw [run_equalIn_agg _ (d + 1) _ _ _ (by kernel_rfl) (by kernel_rfl), hf]
  have hi := Try.underlying3
  have ha := Try.isAgg3
  have he : ∀ (W : World) (x y : Int), (Op.equalIn (d + 1) 3 (.int .i64 x) (.int .i64 y)).run Try.prog W = .ok (x == y) W := fun W x y => run_equalIn_int W d 3 .i64 .i64 x y hi
  have hp : ∀ (W : World) (cs : Array Value) (i : Nat) (v : Value), cs[i]? = some v → (part 3 cs i).run Try.prog W = .ok v W := by
    intro W cs i v h
    simp [part, ha, h, Result.andThen]
  have h1 := fun W => hp W #[.int .i64 a.kind, .int .i64 a.at_, .int .i64 a.len, .int .i64 a.letter]
  have h2 := fun W => hp W #[.int .i64 b.kind, .int .i64 b.at_, .int .i64 b.len, .int .i64 b.letter]
  simp only [Op.eqFields, t0, t1, t2, t3, o0, o1, o2, o3, n0, n1, n2, n3, ne_eq, not_false_eq_true, if_true, Sem.run_bind]
  rw [h1 W 0 (.int .i64 a.kind) rfl, Result.andThen_ok, h2 W 0 (.int .i64 b.kind) rfl, Result.andThen_ok, he, Result.andThen_ok]
  by_cases e0 : a.kind = b.kind
  · rw [show (a.kind == b.kind) = true by simpa using e0]
    simp only [Bool.not_true, Bool.false_eq_true, if_false, Bool.true_and, Sem.run_bind, Sem.run_ite]
    rw [h1 W 1 (.int .i64 a.at_) rfl, Result.andThen_ok, h2 W 1 (.int .i64 b.at_) rfl, Result.andThen_ok, he, Result.andThen_ok]
    by_cases e1 : a.at_ = b.at_
    · rw [show (a.at_ == b.at_) = true by simpa using e1]
      simp only [Bool.not_true, Bool.false_eq_true, if_false, Bool.true_and]
      rw [h1 W 2 (.int .i64 a.len) rfl, Result.andThen_ok, h2 W 2 (.int .i64 b.len) rfl, Result.andThen_ok, he, Result.andThen_ok]
      by_cases e2 : a.len = b.len
      · rw [show (a.len == b.len) = true by simpa using e2]
        simp only [Bool.not_true, Bool.false_eq_true, if_false, Bool.true_and]
        rw [h1 W 3 (.int .i64 a.letter) rfl, Result.andThen_ok, h2 W 3 (.int .i64 b.letter) rfl, Result.andThen_ok, he, Result.andThen_ok]
        by_cases e3 : a.letter = b.letter
        · rw [show (a.letter == b.letter) = true by simpa using e3]; rfl
        · rw [show (a.letter == b.letter) = false by simpa using e3]; rfl
      · rw [show (a.len == b.len) = false by simpa using e2]; rfl
    · rw [show (a.at_ == b.at_) = false by simpa using e1]; rfl
  · rw [show (a.kind == b.kind) = false by simpa using e0]; rfl
theorem ev_neq (W : World) (a b : Ev) : (binOp .neq 47 (.agg #[.int .i64 a.kind, .int .i64 a.at_, .int .i64 a.len, .int .i64 a.letter]) (.agg #[.int .i64 b.kind, .int .i64 b.at_, .int .i64 b.len, .int .i64 b.letter])).run Try.prog W = .ok (.bool (!(a.kind == b.kind && (a.at_ == b.at_ && (a.len == b.len && a.letter == b.letter))))) W := by
  rw [run_neq_struct, show (10000 : Nat) = 9998 + 1 + 1 from rfl, ev_eqd]; rfl
set_option maxRecDepth 100000 in
set_option maxHeartbeats 1000000 in
theorem evequal_go (xs ys : List Ev) (g g' c c' : Nat) (w : World) (hl : xs.length = ys.length) (hb : xs.length ≤ 4294967296) (h1 : EvAt w g xs) (h2 : EvAt w g' ys) :
    Calls Try.prog 35 #[.slice (some ⟨g, 0, none⟩) xs.length c, .slice (some ⟨g', 0, none⟩) xs.length c'] w fun e w' => (∃ b, e = .returned (.bool b) ∧ (b = true ↔ xs = ys)) ∧ ∃ q, w' = w.drewN q := by
  have H1 := hide h1
  have H2 := hide h2
  have HL := hide hl
  clear h1 h2 hl
  have hn : (((xs.length : Int)) != (xs.length : Int)) = false := by simp
  go_enter Try.func35, Try.ntmps35
  go_wp2
  go_loopw [13] (fun i wr => ∃ k q : Nat, k ≤ xs.length ∧ i = .int .i64 k ∧ Hid (∀ j (hj : j < xs.length) (hj2 : j < ys.length), j < k → xs[j] = ys[j]) ∧ wr = w.drewN q) (fun i _ => xs.length - (intOf i).toNat)
  case atStart => exact ⟨0, 0, Nat.zero_le _, rfl, hide fun j _ _ h => absurd h (by omega), rfl⟩
  case round =>
    obtain ⟨k, q, hk, rfl, hsame, rfl⟩ := hrel
    by_cases hlt : k < xs.length
    · have hlt2 : k < ys.length := by have := HL.out; omega
      obtain ⟨c0, c1, c2, c3⟩ := H1.out k hlt
      obtain ⟨d0, d1, d2, d3⟩ := H2.out k hlt2
      obtain ⟨a, ha⟩ : ∃ a, a = xs[k] := ⟨_, rfl⟩
      obtain ⟨b, hb⟩ : ∃ b, b = ys[k] := ⟨_, rfl⟩
      rw [← ha] at c0 c1 c2 c3
      rw [← hb] at d0 d1 d2 d3
      have HA := hide ha
      have HBB := hide hb
      clear ha hb
      have hk0 : (0 : Int) ≤ (k : Int) := by omega
      have hk1 : (k : Int) < (xs.length : Int) := by omega
      obtain ⟨z, hz⟩ : ∃ z, z = (a.kind == b.kind && (a.at_ == b.at_ && (a.len == b.len && a.letter == b.letter))) := ⟨_, rfl⟩
      have hq := fun W => ev_neq W a b
      rw [← hz] at hq
      have hg : Try.prog.eqGuardType Try.prog.depth 47 = false := by kernel_rfl
      have hze : z = true ↔ a = b := by
        rw [hz]
        simp only [Bool.and_eq_true, beq_iff_eq]
        exact ⟨fun ⟨h1, h2, h3, h4⟩ => Ev.ext_ h1 h2 h3 h4, fun h => by subst h; simp⟩
      have HZ := hide hze
      clear hz hze
      go_wp2_with fail
      go_quiet (fail)
      cases z
      · go_wp2
        go_ret
        refine ⟨⟨false, rfl, ?_⟩, q + nq, by simp⟩
        simp only [Bool.false_eq_true, false_iff]
        intro e
        subst e
        have := HZ.out.2 (by rw [HA.out, HBB.out])
        cases this
      · go_wp2
        go_roundw
        case rel =>
          refine ⟨k + 1, q + nq, by omega, by go_num, hide fun j hj hj2 hjk => ?_, by simp⟩
          by_cases e : j < k
          · exact hsame.out j hj hj2 e
          · obtain rfl : j = k := by omega
            rw [← HA.out, ← HBB.out]; exact HZ.out.1 rfl
        case measure => simp [intOf]; omega
    · obtain rfl : k = xs.length := by omega
      go_wp2
      go_ret
      refine ⟨⟨true, rfl, ?_⟩, q, rfl⟩
      simp only [true_iff]
      exact List.ext_getElem HL.out fun j h1 h2 => hsame.out j h1 h2 h1
set_option maxRecDepth 100000 in
set_option maxHeartbeats 400000 in
theorem evEqual_any (xs ys : List Ev) (v v' : Value) (w : World) (h1 : RdE w v xs) (h2 : RdE w v' ys) (hb : xs.length ≤ 4294967296) (hb' : ys.length ≤ 4294967296) :
    Calls Try.prog 35 #[v, v'] w fun e w' => (∃ b, e = .returned (.bool b) ∧ (b = true ↔ xs = ys)) ∧ ∃ q, w' = w.drewN q := by
  have sh : ∀ {v : Value} {xs : List Ev}, RdE w v xs → ∃ A c, v = .slice A xs.length c := by
    rintro v xs (⟨rfl, A, c, rfl⟩ | ⟨g, c, rfl, _⟩)
    · exact ⟨A, c, rfl⟩
    · exact ⟨_, c, rfl⟩
  by_cases hl : xs.length = ys.length
  · by_cases hp : 0 < xs.length
    · rcases h1 with ⟨rfl, _⟩ | ⟨g, c, rfl, h1⟩
      · simp at hp
      rcases h2 with ⟨rfl, _⟩ | ⟨g', c', rfl, h2⟩
      · have h0 : xs.length = 0 := hl
        omega
      have := evequal_go xs ys g g' c c' w hl hb h1 h2
      rw [← hl]
      exact this
    · obtain ⟨A, c, rfl⟩ := sh h1
      obtain ⟨A', c', rfl⟩ := sh h2
      have e1 : xs.length = 0 := by omega
      have e2 : ys.length = 0 := by omega
      have HE := hide (show xs = ys by rw [List.eq_nil_of_length_eq_zero e1, List.eq_nil_of_length_eq_zero e2])
      rw [e1, e2]
      clear e1 e2 hl hp h1 h2 hb hb' sh
      go_enter Try.func35, Try.ntmps35
      go_wp2
      refine wp_loop_rounds 1 ?_
      rw [rounds_succ]
      go_wp2
      go_ret
      exact ⟨⟨true, rfl, by simp [HE.out]⟩, 0, rfl⟩
  · obtain ⟨A, c, rfl⟩ := sh h1
    obtain ⟨A', c', rfl⟩ := sh h2
    have HE := hide (show ¬ xs = ys by intro e; exact hl (by rw [e]))
    have hne : ((xs.length : Int) != (ys.length : Int)) = true := by rw [bne_iff_ne]; omega
    clear hl h1 h2 sh
    go_enter Try.func35, Try.ntmps35
    go_wp2
    go_ret
    exact ⟨⟨false, rfl, by simp [HE.out]⟩, 0, rfl⟩
theorem flat_get : ∀ (xs : List Ev) (k j : Nat), k < xs.length → j < 4 → (xs.flatMap Ev.cells)[k * 4 + j]? = (xs[k]?.bind fun e => e.cells[j]?)
  | [], k, j, h, _ => by simp at h
  | x :: xs, 0, j, _, hj => by
    rw [List.flatMap_cons, List.getElem?_append_left (by simp [Ev.cells]; omega)]
    simp
  | x :: xs, k + 1, j, h, hj => by
    rw [List.flatMap_cons, List.getElem?_append_right (by simp [Ev.cells]; omega)]
    rw [show (k + 1) * 4 + j - x.cells.length = k * 4 + j by simp [Ev.cells]; omega]
    rw [flat_get xs k j (by simpa using h) hj]
    simp
theorem EvAt.of {w : World} {g : Nat} {xs : List Ev} (h : ∀ i u, (xs.flatMap Ev.cells)[i]? = some u → w.cell? ⟨g, i, none⟩ = some u) : EvAt w g xs := by
  intro k hk
  have key : ∀ j u, j < 4 → (xs[k].cells)[j]? = some u → w.cell? ⟨g, k * 4 + j, none⟩ = some u := by
    intro j u hj hu
    apply h
    rw [flat_get xs k j hk hj, List.getElem?_eq_getElem hk]
    exact hu
  exact ⟨key 0 _ (by omega) rfl, key 1 _ (by omega) rfl, key 2 _ (by omega) rfl, key 3 _ (by omega) rfl⟩
theorem Evs.rd {w : World} {B : Nat} {v : Value} {xs : List Ev} (h : Evs w B v xs) : RdE w v xs := by
  unfold Evs World.ownsRow at h
  rcases h.2 with ⟨rfl, h0⟩ | ⟨g, cap, cur, rfl, hb, hh, hc1, hc2, hcs, htk⟩
  · exact .inl ⟨List.eq_nil_of_length_eq_zero h0, none, 0, rfl⟩
  · refine .inr ⟨g, cap, rfl, EvAt.of fun i u hu => ?_⟩
    rw [cell_of_row w g i _ 47 (0, 0) hh]
    rw [← htk, List.getElem?_take] at hu
    split at hu
    · simpa using hu
    · cases hu
end Go.Proofs.Ytmajalpmbppkpaa
