/- indel.Script: its contract for any strings. -/
import Derived.Test.YtmajalpmbppkpaaDis
import Derived.BigQuiet
set_option linter.unusedVariables false
namespace Go.Proofs.Ytmajalpmbppkpaa
open Go.RowKit
/-- the distance of the ends from i and k on -/
def dAt (u v : ByteArray) (i k : Nat) : Nat := dist (u.data.toList.drop i) (v.data.toList.drop k)
theorem dAt_lcs (u v : ByteArray) (i k : Nat) (hi : i ≤ u.size) (hk : k ≤ v.size) : dAt u v i k + 2 * lcsAt u v i k = (u.size - i) + (v.size - k) := by
  have := dist_lcs (u.data.toList.drop i) (v.data.toList.drop k)
  simpa [dAt, lcsAt] using this
def ptr (b : Nat) : Value := .pointer (some ⟨b, 0, none⟩)
def tabFn (B : Nat) : Value := .func (.func 87) #[] #[.pointer (some ⟨B, 0, none⟩), .pointer (some ⟨B + 1, 0, none⟩), .pointer (some ⟨B + 3, 0, none⟩), .pointer (some ⟨B + 4, 0, none⟩)]
set_option maxRecDepth 100000 in
set_option maxHeartbeats 1000000 in
theorem left_any (u v : ByteArray) (hu : u.size ≤ 256) (hv : v.size ≤ 256) (B b0 b1 b2 i k : Nat) (hi : i ≤ u.size) (hk : k ≤ v.size) (w : World) (hT : Tab w B u v) (h0 : b0 ≠ B + 2) (h1 : b1 ≠ B + 2) (h2 : b2 ≠ B + 2)
    (c0 : w.cell? ⟨b0, 0, none⟩ = some (.string u)) (c1 : w.cell? ⟨b1, 0, none⟩ = some (.string v)) (c2 : w.cell? ⟨b2, 0, none⟩ = some (tabFn B)) :
    Calls Try.prog 67 #[.int .i64 (i : Int), .int .i64 (k : Int), .pointer (some ⟨b0, 0, none⟩), .pointer (some ⟨b1, 0, none⟩), .pointer (some ⟨b2, 0, none⟩)] w
      fun e w' => e = .returned (.int .i64 ((dAt u v i k : Nat) : Int)) ∧ Tab w' B u v ∧ One (B + 2) w w' := by
  have hd := dAt_lcs u v i k hi hk
  have HT := hide (fun W hW => tab_at u v hu hv B (u.size + v.size) i k hi hk (by omega) W hW)
  unfold tabFn at c2
  obtain ⟨L, hL⟩ : ∃ L, L = lcsAt u v i k := ⟨_, rfl⟩
  rw [← hL] at hd HT
  obtain ⟨D, hD⟩ : ∃ D, D = dAt u v i k := ⟨_, rfl⟩
  rw [← hD] at hd
  have hL2 : L ≤ 256 := by omega
  have HD := hide hD
  have HL := hide hL
  have w1 : IntKind.i64.wrap ((u.size : Int) - (i : Int)) = (u.size : Int) - (i : Int) := IntWalk.i64_in _ (by omega)
  have w2 : IntKind.i64.wrap ((u.size : Int) - (i : Int) + (v.size : Int)) = (u.size : Int) - (i : Int) + (v.size : Int) := IntWalk.i64_in _ (by omega)
  have w3 : IntKind.i64.wrap ((u.size : Int) - (i : Int) + (v.size : Int) - (k : Int)) = (u.size : Int) - (i : Int) + (v.size : Int) - (k : Int) := IntWalk.i64_in _ (by omega)
  have w4 : IntKind.i64.wrap (2 * (L : Int)) = 2 * (L : Int) := IntWalk.i64_in _ (by omega)
  have w5 : IntKind.i64.wrap ((u.size : Int) - (i : Int) + (v.size : Int) - (k : Int) - 2 * (L : Int)) = (D : Int) := by rw [IntWalk.i64_in _ (by omega)]; omega
  have HH := hide hd
  clear hd hD hL
  have tok : True := trivial
  go_enter Try.func67, Try.ntmps67
  go_wp2_with fail
  go_region_held3 (fun W => W.cell? ⟨b0, 0, none⟩ = some (.string u) ∧ W.cell? ⟨b1, 0, none⟩ = some (.string v) ∧ W.cell? ⟨b2, 0, none⟩ = some (.func (.func 87) #[] #[.pointer (some ⟨B, 0, none⟩), .pointer (some ⟨B + 1, 0, none⟩), .pointer (some ⟨B + 3, 0, none⟩), .pointer (some ⟨B + 4, 0, none⟩)])) (first | exact ⟨c0, c1, c2⟩ | exact ⟨d0, d1, d2⟩) (((go_at_call 87; refine (HT.out _ hT.drew).mono ?_; rintro e w1 ⟨rfl, hT1, hB1⟩; have d0 := (hB1.cell (p := ⟨b0, 0, none⟩) h0).trans c0; have d1 := (hB1.cell (p := ⟨b1, 0, none⟩) h1).trans c1; have d2 := (hB1.cell (p := ⟨b2, 0, none⟩) h2).trans c2)))
  all_goals (
    go_wp2
    go_ret
    exact ⟨by rw [← HD.out]; rfl, hT1, (One.refl _ w).drew.trans hB1⟩)
structure Ev where
  kind : Int
  at_ : Int
  len : Int
  letter : Int
def Ev.cells (e : Ev) : List Value := [.int .i64 e.kind, .int .i64 e.at_, .int .i64 e.len, .int .i64 e.letter]
def evs : Nat → List UInt8 → List UInt8 → Nat → List Ev
  | 0, _, _, _ => []
  | f + 1, u, v, i =>
    if dist u v = 0 then []
    else if u ≠ [] ∧ dist u.tail v + 1 = dist u v then ⟨4, i, 1, 0⟩ :: evs f u.tail v (i + 1)
    else if v ≠ [] ∧ dist u v.tail + 1 = dist u v then ⟨5, i, 1, dig (v.headD 0)⟩ :: evs f u v.tail i
    else evs f u.tail v.tail (i + 1)
theorem infoEvent : (Try.prog.info? 47).map (fun i => (i.zero, i.size, i.bytes)) = some (some (.agg #[.int .i64 0, .int .i64 0, .int .i64 0, .int .i64 0]), 4, 32) := by kernel_rfl
def Evs (w : World) (B : Nat) (v : Value) (xs : List Ev) : Prop := w.ownsRow B 47 4 v xs.length (xs.flatMap Ev.cells)
theorem Evs.nil_ (w : World) (B : Nat) : Evs w B (.slice none 0 0) [] := World.ownsRow_nil _ _ _ _
theorem Evs.alloc {w : World} {B : Nat} {v : Value} {xs : List Ev} (h : Evs w B v xs) (o : Obj) : Evs (w.alloc o) B v xs := World.ownsRow.alloc h o
theorem run_app_ev (w : World) (ty : TypeId) (B : Nat) (v : Value) (xs : List Ev) (hown : Evs w B v xs) (g : Nat) (x : Ev)
    (hblk : w.heap[g]? = some (.cells x.cells.toArray 47 (0, 0))) (hb : xs.length ≤ 4294967296) (hbase : B ≤ w.heap.size) :
    ∃ v' w', (Builtin.append_ #[43, 43] ty #[v, .slice (some ⟨g, 0, none⟩) 1 1]).run Try.prog w = .ok v' w' ∧ Evs w' B v' (xs ++ [x]) ∧ w.grownBy w' v.ownBlock := by
  obtain ⟨i0, hi, hz0, hz1, hz2⟩ := info_parts infoEvent
  obtain ⟨v', w', h1, h2, h3, _⟩ := run_append_own (P := Try.prog) w B 43 ty 47 i0 _ 4 32 Try.underlying43 hi hz0 hz1 hz2 rfl (by decide) v xs.length (xs.flatMap Ev.cells) hown ⟨g, 0, none⟩ 1 1 x.cells rfl (by
      intro j u hj
      have : (⟨g, 0, none⟩ : Addr).add j = ⟨g, j, none⟩ := by unfold Addr.add; split <;> simp_all
      rw [this, cell_of_row w g j _ 47 (0, 0) hblk]
      simpa using hj) (by
      intro u hu
      simp [Ev.cells] at hu
      rcases hu with rfl | rfl | rfl | rfl <;> rfl) (by unfold maxLen; omega) (by omega) hbase
  refine ⟨v', w', h1, ?_, h3⟩
  unfold Evs
  rw [List.length_append, List.flatMap_append]
  simpa using h2
theorem boxes3 (w : World) (u v : ByteArray) (q : Nat) :
    Below w.heap.size w ((((w.alloc (Obj.cells #[Value.string u] 9)).alloc (Obj.cells #[Value.string v] 9)).alloc (Obj.cells #[Value.string u, Value.string v] 9)).drewN q) ∧
    ((((w.alloc (Obj.cells #[Value.string u] 9)).alloc (Obj.cells #[Value.string v] 9)).alloc (Obj.cells #[Value.string u, Value.string v] 9)).drewN q).heap.size = w.heap.size + 3 ∧
    ((((w.alloc (Obj.cells #[Value.string u] 9)).alloc (Obj.cells #[Value.string v] 9)).alloc (Obj.cells #[Value.string u, Value.string v] 9)).drewN q).cell? ⟨w.heap.size, 0, none⟩ = some (.string u) ∧
    ((((w.alloc (Obj.cells #[Value.string u] 9)).alloc (Obj.cells #[Value.string v] 9)).alloc (Obj.cells #[Value.string u, Value.string v] 9)).drewN q).cell? ⟨w.heap.size + 1, 0, none⟩ = some (.string v) := by
  refine ⟨belowN ?_ q, by simp, ?_, ?_⟩
  · refine (((Below.refl _ w).alloc ?_ _).alloc ?_ _).alloc ?_ _ <;> simp <;> omega
  · refine cell_of_one (t := 9) ?_
    rw [World.heap_drewN]
    simp only [heap_push]; repeat rw [push_old _ _ _ (by simp only [Array.size_push]; omega)]
    rw [push_new _ _ _ (by simp)]
  · refine cell_of_one (t := 9) ?_
    rw [World.heap_drewN]
    simp only [heap_push]; repeat rw [push_old _ _ _ (by simp only [Array.size_push]; omega)]
    rw [push_new _ _ _ (by simp)]
def scriptV (u v : ByteArray) : List Ev × Int := if ckl [u, v] = 0 then (evs (u.size + v.size + 1) u.data.toList v.data.toList 0, 0) else ([], ckl [u, v])
theorem wp_app_ev {w : World} {o : Oper} {a : Act} {K : Act → World → Prop} {Q : Exit → Act → World → Prop} (s x : Operand)
    (ho : o.op = .call { callee := .builtin .append, args := #[s, x], argTypes := #[43, 43] })
    (B : Nat) (v : Value) (xs : List Ev) (hs : a.eval s = v) (hown : Evs w B v xs)
    (g : Nat) (y : Ev) (hx : a.eval x = .slice (some ⟨g, 0, none⟩) 1 1) (hblk : w.heap[g]? = some (.cells y.cells.toArray 47 (0, 0)))
    (hb : xs.length ≤ 4294967296) (hbase : B ≤ w.heap.size)
    (h : ∀ v' w', Evs w' B v' (xs ++ [y]) → w.grownBy w' v.ownBlock → K (a.put o.dst v') w') : o.wp Try.prog a w K Q := by
  obtain ⟨v', w', hr, h2, h3⟩ := run_app_ev w o.type B v xs hown g y hblk hb hbase
  unfold Oper.wp execOp
  simp only [ho, resolve, invoke, builtin, Sem.run_bind, Sem.run_pure, Result.andThen_ok, List.map_toArray, List.map_cons, List.map_nil, hs, hx, hr]
  exact h v' w' h2 h3
theorem wpList_app_ev {w : World} {ops : Array Oper} {rest : List Oper} {o : Oper} {a : Act} {Q : Exit → Act → World → Prop} (hgd : o.guard = none) (s x : Operand)
    (ho : o.op = .call { callee := .builtin .append, args := #[s, x], argTypes := #[43, 43] })
    (B : Nat) (v : Value) (xs : List Ev) (hs : a.eval s = v) (hown : Evs w B v xs)
    (g : Nat) (y : Ev) (hx : a.eval x = .slice (some ⟨g, 0, none⟩) 1 1) (hblk : w.heap[g]? = some (.cells y.cells.toArray 47 (0, 0)))
    (hb : xs.length ≤ 4294967296) (hbase : B ≤ w.heap.size)
    (h : ∀ v' w', Evs w' B v' (xs ++ [y]) → w.grownBy w' v.ownBlock → wpList Try.prog ops Q rest (a.put o.dst v') w') : wpList Try.prog ops Q (o :: rest) a w :=
  wpList_plain hgd fun _ hK => wp_app_ev s x ho B v xs hs hown g y hx hblk hb hbase fun v' w' h2 h3 => hK _ _ (h v' w' h2 h3)
theorem below_appev {W w w' : World} {B : Nat} {v : Value} {xs : List Ev} (hB : Below B W w) (hw : B ≤ w.heap.size) (hs : Evs w B v xs) (hg : w.grownBy w' v.ownBlock) : Below B W w' :=
  hB.grown hg hw (fun _ hk => (World.ownsRow.lt hs _ hk).1)
theorem Evs.one {w w' : World} {B g : Nat} {v : Value} {xs : List Ev} (h : Evs w B v xs) (hO : One g w w') (hg : g < B) : Evs w' B v xs := by
  unfold Evs World.ownsRow at h ⊢
  refine ⟨h.1, ?_⟩
  rcases h.2 with h' | ⟨g', cap, cur, h1, h2, h3, h4⟩
  · exact .inl h'
  · exact .inr ⟨g', cap, cur, h1, h2, (hO.block g' (by omega)).trans h3, h4⟩
theorem Evs.mono {w : World} {B B' : Nat} {v : Value} {xs : List Ev} (h : Evs w B v xs) (hg : B' ≤ B) : Evs w B' v xs := by
  unfold Evs World.ownsRow at h ⊢
  refine ⟨h.1, ?_⟩
  rcases h.2 with h' | ⟨g', cap, cur, h1, h2, h3⟩
  · exact .inl h'
  · exact .inr ⟨g', cap, cur, h1, by omega, h3⟩
theorem idx_letter (c : UInt8) (w : World) :
    Calls Try.prog 64 #[.string ⟨#[48, 49, 50, 51, 52, 53, 54, 55, 56, 57, 97, 98, 99, 100, 101, 102]⟩, .int .u8 (c.toNat : Int)] w fun e w' => e = .returned (.int .i64 (dig c)) ∧ w = w' := by
  refine (strings_IndexByte _ _ _).mono ?_
  rintro e w' ⟨rfl, rfl⟩
  refine ⟨?_, rfl⟩
  have h := index_lets16 ⟨c.toNat, c.toNat_lt⟩
  simp only [UInt8.ofNat_toNat] at h
  rw [← h]
  simp [lets]
structure St (W : World) (B b0 b1 b2 : Nat) (u v : ByteArray) : Prop where
  tab : Tab W B u v
  c0 : W.cell? ⟨b0, 0, none⟩ = some (.string u)
  c1 : W.cell? ⟨b1, 0, none⟩ = some (.string v)
  c2 : W.cell? ⟨b2, 0, none⟩ = some (tabFn B)
theorem St.below {W W' : World} {B B' b0 b1 b2 : Nat} {u v : ByteArray} (h : St W B b0 b1 b2 u v) (hb : Below B' W W') (hB : B + 5 ≤ B') (h0 : b0 < B') (h1 : b1 < B') (h2 : b2 < B') : St W' B b0 b1 b2 u v :=
  ⟨h.tab.below hb hB, (hb.cell (p := ⟨b0, 0, none⟩) h0).trans h.c0, (hb.cell (p := ⟨b1, 0, none⟩) h1).trans h.c1, (hb.cell (p := ⟨b2, 0, none⟩) h2).trans h.c2⟩
theorem left_st (u v : ByteArray) (hu : u.size ≤ 256) (hv : v.size ≤ 256) (B b0 b1 b2 i k : Nat) (hi : i ≤ u.size) (hk : k ≤ v.size) (h0 : b0 ≠ B + 2) (h1 : b1 ≠ B + 2) (h2 : b2 ≠ B + 2) (I K : Int) (hI : I = i) (hK : K = k) (D : Nat) (hD : D = dAt u v i k) (w : World) (h : St w B b0 b1 b2 u v) :
    Calls Try.prog 67 #[.int .i64 I, .int .i64 K, .pointer (some ⟨b0, 0, none⟩), .pointer (some ⟨b1, 0, none⟩), .pointer (some ⟨b2, 0, none⟩)] w
      fun e w' => e = .returned (.int .i64 (D : Int)) ∧ St w' B b0 b1 b2 u v ∧ One (B + 2) w w' := by
  subst hI hK hD
  refine (left_any u v hu hv B b0 b1 b2 i k hi hk w h.tab h0 h1 h2 h.c0 h.c1 h.c2).mono ?_
  rintro e w' ⟨rfl, hT, hO⟩
  exact ⟨rfl, ⟨hT, (hO.cell (p := ⟨b0, 0, none⟩) h0).trans h.c0, (hO.cell (p := ⟨b1, 0, none⟩) h1).trans h.c1, (hO.cell (p := ⟨b2, 0, none⟩) h2).trans h.c2⟩, hO⟩
theorem drop_ne {u : ByteArray} {i : Nat} (hi : i < u.size) : u.data.toList.drop i ≠ [] := by
  intro h
  have := congrArg List.length h
  simp at this
  omega
theorem drop_end {u : ByteArray} {i : Nat} (hi : u.size ≤ i) : u.data.toList.drop i = [] := List.drop_of_length_le (by simpa using hi)
theorem dAt_end_left {u v : ByteArray} {i k : Nat} (hi : u.size ≤ i) : dAt u v i k = v.size - k := by
  unfold dAt; rw [drop_end hi, dist_sym, dist_nil_right]; simp
theorem dAt_end_right {u v : ByteArray} {i k : Nat} (hk : v.size ≤ k) : dAt u v i k = u.size - i := by
  unfold dAt; rw [drop_end hk, dist_nil_right]; simp
theorem evs_zero {u v : ByteArray} {i k : Nat} (f : Nat) (h : dAt u v i k = 0) : evs f (u.data.toList.drop i) (v.data.toList.drop k) i = [] := by
  cases f with
  | zero => rfl
  | succ f => rw [evs, if_pos (by exact h)]
theorem evs_del {u v : ByteArray} {i k : Nat} (f : Nat) (h0 : dAt u v i k ≠ 0) (hi : i < u.size) (h : dAt u v (i + 1) k + 1 = dAt u v i k) :
    evs (f + 1) (u.data.toList.drop i) (v.data.toList.drop k) i = ⟨4, i, 1, 0⟩ :: evs f (u.data.toList.drop (i + 1)) (v.data.toList.drop k) (i + 1) := by
  rw [evs, if_neg (by exact h0), if_pos ⟨drop_ne hi, by rw [List.tail_drop]; exact h⟩, List.tail_drop]
theorem evs_ins {u v : ByteArray} {i k : Nat} (f : Nat) (h0 : dAt u v i k ≠ 0) (h1 : ¬ (i < u.size ∧ dAt u v (i + 1) k + 1 = dAt u v i k)) (hk : k < v.size) (h : dAt u v i (k + 1) + 1 = dAt u v i k) :
    evs (f + 1) (u.data.toList.drop i) (v.data.toList.drop k) i = ⟨5, i, 1, dig v[k]⟩ :: evs f (u.data.toList.drop i) (v.data.toList.drop (k + 1)) i := by
  have h1' : ¬ (u.data.toList.drop i ≠ [] ∧ dist (u.data.toList.drop i).tail (v.data.toList.drop k) + 1 = dist (u.data.toList.drop i) (v.data.toList.drop k)) := by
    rintro ⟨ha, hb⟩
    apply h1
    refine ⟨?_, by rw [List.tail_drop] at hb; exact hb⟩
    rcases Nat.lt_or_ge i u.size with hlt | hge
    · exact hlt
    · exact absurd (drop_end hge) ha
  rw [evs, if_neg (by exact h0), if_neg h1', if_pos ⟨drop_ne hk, by rw [List.tail_drop]; exact h⟩, List.tail_drop]
  congr 2
  have : k < v.data.toList.length := by simpa using hk
  rw [List.drop_eq_getElem_cons this]
  rfl
theorem evs_skip {u v : ByteArray} {i k : Nat} (f : Nat) (h0 : dAt u v i k ≠ 0) (h1 : ¬ (i < u.size ∧ dAt u v (i + 1) k + 1 = dAt u v i k)) (h2 : ¬ (k < v.size ∧ dAt u v i (k + 1) + 1 = dAt u v i k)) :
    evs (f + 1) (u.data.toList.drop i) (v.data.toList.drop k) i = evs f (u.data.toList.drop (i + 1)) (v.data.toList.drop (k + 1)) (i + 1) := by
  have h1' : ¬ (u.data.toList.drop i ≠ [] ∧ dist (u.data.toList.drop i).tail (v.data.toList.drop k) + 1 = dist (u.data.toList.drop i) (v.data.toList.drop k)) := by
    rintro ⟨ha, hb⟩
    apply h1
    refine ⟨?_, by rw [List.tail_drop] at hb; exact hb⟩
    rcases Nat.lt_or_ge i u.size with hlt | hge
    · exact hlt
    · exact absurd (drop_end hge) ha
  have h2' : ¬ (v.data.toList.drop k ≠ [] ∧ dist (u.data.toList.drop i) (v.data.toList.drop k).tail + 1 = dist (u.data.toList.drop i) (v.data.toList.drop k)) := by
    rintro ⟨ha, hb⟩
    apply h2
    refine ⟨?_, by rw [List.tail_drop] at hb; exact hb⟩
    rcases Nat.lt_or_ge k v.size with hlt | hge
    · exact hlt
    · exact absurd (drop_end hge) ha
  rw [evs, if_neg (by exact h0), if_neg h1', if_neg h2', List.tail_drop, List.tail_drop]
theorem dAt_room {u v : ByteArray} {i k : Nat} (h0 : dAt u v i k ≠ 0) (h1 : ¬ (i < u.size ∧ dAt u v (i + 1) k + 1 = dAt u v i k)) : k < v.size := by
  rcases Nat.lt_or_ge k v.size with hlt | hge
  · exact hlt
  · exfalso
    rw [dAt_end_right hge] at h0
    apply h1
    rw [dAt_end_right hge, dAt_end_right hge]
    omega
theorem dAt_room2 {u v : ByteArray} {i k : Nat} (h0 : dAt u v i k ≠ 0) (h2 : ¬ (k < v.size ∧ dAt u v i (k + 1) + 1 = dAt u v i k)) : i < u.size := by
  rcases Nat.lt_or_ge i u.size with hlt | hge
  · exact hlt
  · exfalso
    rw [dAt_end_left hge] at h0
    apply h2
    rw [dAt_end_left hge, dAt_end_left hge]
    omega
set_option maxRecDepth 100000 in
set_option maxHeartbeats 6000000 in
theorem script_any (u v : ByteArray) (w : World) :
    Calls Try.prog 28 #[.string u, .string v] w fun e w' => ∃ vl, e = .returned (.tuple #[vl, .int .i64 (scriptV u v).2]) ∧ Evs w' w.heap.size vl (scriptV u v).1 ∧ Below w.heap.size w w' := by
  obtain ⟨W0, hW0⟩ : ∃ W0, W0 = (w.alloc (Obj.cells #[Value.string u] 9)).alloc (Obj.cells #[Value.string v] 9) := ⟨_, rfl⟩
  have hsz : W0.heap.size = w.heap.size + 2 := by rw [hW0]; simp
  have hrow : ∀ k (hk : k < [u, v].length), (W0.alloc (Obj.cells #[Value.string u, Value.string v] 9)).cell? ⟨W0.heap.size, k, none⟩ = some (.string [u, v][k]) := fun k hk => Strs.cell (Strs.lit W0 [u, v] (Nat.le_refl _) (by simp) _ rfl) hk
  have HI := icheck_any [u, v] W0.heap.size 2 _ hrow (by simp)
  rw [hsz, hW0] at HI
  by_cases hc : ckl [u, v] = 0
  · have hs := ckl_sizes hc
    have hu : u.size ≤ 256 := hs u (by simp)
    have hv : v.size ≤ 256 := hs v (by simp)
    have HD := hide (show scriptV u v = (evs (u.size + v.size + 1) u.data.toList v.data.toList 0, 0) by unfold scriptV; rw [if_pos hc])
    rw [hc] at HI
    have HII := hide HI
    clear hc hs HI hrow
    have hsf : ∀ (a : Addr) (m : Mode) (fn : Fn) (first cap : Array Value) (W : World), (store a (.func fn first cap) m).run Try.prog W = stored Try.prog W a (.func fn first cap) m := fun a m fn first cap W => run_store Try.prog W a _ m rfl
    go_enter Try.func28, Try.ntmps28
    go_wp2_with fail
    refine HII.out.mono ?_
    rintro e w1 ⟨rfl, q, rfl⟩
    obtain ⟨hBl, hz1, e0, e1⟩ := boxes3 w u v q
    generalize (((w.alloc (Obj.cells #[Value.string u] 9)).alloc (Obj.cells #[Value.string v] 9)).alloc (Obj.cells #[Value.string u, Value.string v] 9)).drewN q = W1 at hBl hz1 e0 e1 ⊢
    clear HII
    generalize hb0 : w.heap.size = b0 at hBl hz1 e0 e1 ⊢
    obtain ⟨B, hB⟩ : ∃ B, W1.heap.size = B := ⟨_, rfl⟩
    obtain ⟨b1, hb1⟩ : ∃ b1, b0 + 1 = b1 := ⟨_, rfl⟩
    rw [hb1] at e1 ⊢
    go_wp2_with fail
    refine (table_b u v hu hv W1 B hB).mono ?_
    rintro e w2 ⟨rfl, hT, hB2⟩
    have c0 := (hB2.cell (p := ⟨b0, 0, none⟩) (by simp only []; omega)).trans e0
    have c1 := (hB2.cell (p := ⟨b1, 0, none⟩) (by simp only []; omega)).trans e1
    have hb2 : B + 5 ≤ w2.heap.size := by have := lt_of_block hT.ha; omega
    have hBl2 := hBl.trans (hB2.mono (show b0 ≤ B by omega))
    obtain ⟨b2, hb2e⟩ : ∃ b2, w2.heap.size = b2 := ⟨_, rfl⟩
    have hS0 : St (w2.alloc (Obj.cells #[tabFn B] 82)) B b0 b1 b2 u v := by
      have hbel := (Below.refl b2 w2).alloc (by omega) (Obj.cells #[tabFn B] 82)
      refine ⟨hT.below hbel (by omega), (hbel.cell (p := ⟨b0, 0, none⟩) (by simp only []; omega)).trans c0, (hbel.cell (p := ⟨b1, 0, none⟩) (by simp only []; omega)).trans c1, ?_⟩
      rw [← hb2e]
      exact cell_of_one (heap_alloc_new w2 _)
    have hB3 := hBl2.alloc (by omega) (Obj.cells #[tabFn B] 82)
    have hz3 : (w2.alloc (Obj.cells #[tabFn B] 82)).heap.size = b2 + 1 := by rw [← hb2e]; simp
    have hbB : b0 + 3 = B := by omega
    clear e0 e1 hBl hz1 hB hT hB2 hBl2 c0 c1
    unfold tabFn at hS0 hB3 hz3
    go_wp2_with fail
    go_loopw [9, 10, 11] (fun vl iv kv wr => ∃ (xs : List Ev) (i k f : Nat), Evs wr (b2 + 1) vl xs ∧ iv = .int .i64 i ∧ kv = .int .i64 k ∧ i ≤ u.size ∧ k ≤ v.size ∧ (u.size - i) + (v.size - k) < f ∧ xs.length ≤ i + k ∧
      Hid (evs (u.size + v.size + 1) u.data.toList v.data.toList 0 = xs ++ evs f (u.data.toList.drop i) (v.data.toList.drop k) i) ∧ St wr B b0 b1 b2 u v ∧ Below b0 w wr ∧ b2 + 1 ≤ wr.heap.size)
      (fun _ iv kv _ => (u.size - (intOf iv).toNat) + (v.size - (intOf kv).toNat))
    case atStart => exact ⟨[], 0, 0, u.size + v.size + 1, Evs.nil_ _ _, rfl, rfl, Nat.zero_le _, Nat.zero_le _, by omega, Nat.zero_le _, hide (by simp), hS0, hB3, by omega⟩
    case round =>
      obtain ⟨xs, i, k, f, hown, rfl, rfl, hi, hk, hf, hlen, hE, hS, hBw, hsz⟩ := hrel
      clear hS0 hB3 hz3
      obtain ⟨f, rfl⟩ : ∃ f', f = f' + 1 := ⟨f - 1, by omega⟩
      have n0 : b0 ≠ B + 2 := by omega
      have n1 : b1 ≠ B + 2 := by omega
      have n2 : b2 ≠ B + 2 := by omega
      obtain ⟨D, hD⟩ : ∃ D, D = dAt u v i k := ⟨_, rfl⟩
      have HDl := hide (show D ≤ u.size + v.size by have := dAt_lcs u v i k hi hk; omega)
      have H00 := hide (fun W hW => left_st u v hu hv B b0 b1 b2 i k hi hk n0 n1 n2 (i : Int) (k : Int) rfl rfl D hD W hW)
      by_cases h0 : D = 0
      · have HZ := hide (evs_zero (f + 1) (hD ▸ h0))
        subst h0
        clear hD
        go_wp2_with fail
        refine (H00.out _ hS).mono ?_
        rintro e wa ⟨rfl, hSa, hOa⟩
        have hown1 := hown.one hOa (by omega)
        have hBw1 := hBw.trans (hOa.below (by omega))
        go_wp2
        go_ret2
        refine ⟨_, by rw [HD.out]; rfl, ?_, hb0 ▸ hBw1⟩
        rw [HD.out, hE.out, HZ.out, List.append_nil]
        exact hown1.mono (by omega)
      · have hDp : 0 < D := by omega
        have h00 : dAt u v i k ≠ 0 := by rw [← hD]; exact h0
        by_cases hdel : i < u.size ∧ dAt u v (i + 1) k + 1 = dAt u v i k
        · have hE2 := hide (evs_del f h00 hdel.1 hdel.2)
          have hi' := hdel.1
          obtain ⟨D1, hD1⟩ : ∃ D1, D1 = dAt u v (i + 1) k := ⟨_, rfl⟩
          have H10 := hide (fun W hW => left_st u v hu hv B b0 b1 b2 (i + 1) k hi' hk n0 n1 n2 ((i : Int) + 1) (k : Int) (by omega) rfl D1 hD1 W hW)
          have hDD : D1 + 1 = D := by rw [hD1, hD]; exact hdel.2
          have hcmp : ((D1 : Int) == (D : Int) - 1) = true := by rw [beq_iff_eq]; omega
          have hD6 : D ≤ 512 := by have := HDl.out; omega
          clear hD hD1 h00 hdel h0
          have c0 := hS.c0
          go_wp2_with fail
          refine (H00.out _ hS).mono ?_
          rintro e wa ⟨rfl, hSa, hOa⟩
          have c0 := hSa.c0
          go_wp2_with fail
          refine (H10.out _ hSa).mono ?_
          rintro e wb ⟨rfl, hSb, hOb⟩
          have c0 := hSb.c0
          go_wp2_with fail
          refine (H00.out _ hSb).mono ?_
          rintro e wc ⟨rfl, hSc, hOc⟩
          have c0 := hSc.c0
          have hOO := (hOa.trans hOb).trans hOc
          have hown1 := hown.one hOO (by omega)
          have hBw1 := hBw.trans (hOO.below (by omega))
          have hsz1 : b2 + 1 ≤ wc.heap.size := by have := hOO.size; omega
          clear hSa hSb hOa hOb hOc hS hown hBw hsz hOO
          go_wp2_with (at_builtin; refine wpList_app_ev rfl (.tmp 50) (.tmp 53) rfl (b2 + 1) _ _ rfl (hown1.alloc _) wc.heap.size ⟨4, i, 1, 0⟩ rfl (heap_alloc_new wc _) (by omega) (by simp; omega) ?_; intro v1 wd hown2 hg1)
          have hbelw := below_appev ((Below.refl (b2 + 1) wc).alloc hsz1 _) (by simp; omega) (hown1.alloc _) hg1
          have hS2 := hSc.below hbelw (by omega) (by omega) (by omega) (by omega)
          have hB4 := hBw1.trans (hbelw.mono (by omega))
          have hsz2 : b2 + 1 ≤ wd.heap.size := by have := hbelw.size; omega
          clear hg1 hown1 hSc hBw1 hbelw
          go_roundw
          case rel =>
            refine ⟨_, i + 1, k, f, hown2, by go_num, rfl, hi', hk, by omega, by simp; omega, hide ?_, hS2, hB4, hsz2⟩
            rw [hE.out, hE2.out]; simp
          case measure => simp [intOf]; omega
        · have hk' : k < v.size := dAt_room h00 hdel
          obtain ⟨D2, hD2⟩ : ∃ D2, D2 = dAt u v i (k + 1) := ⟨_, rfl⟩
          have H01 := hide (fun W hW => left_st u v hu hv B b0 b1 b2 i (k + 1) hi hk' n0 n1 n2 (i : Int) ((k : Int) + 1) rfl (by omega) D2 hD2 W hW)
          have hD6 : D ≤ 512 := by have := HDl.out; omega
          by_cases hins : dAt u v i (k + 1) + 1 = dAt u v i k
          · have hE2 := hide (evs_ins f h00 hdel hk' hins)
            have hDD : D2 + 1 = D := by rw [hD2, hD]; exact hins
            have hcmp2 : ((D2 : Int) == (D : Int) - 1) = true := by rw [beq_iff_eq]; omega
            by_cases hi' : i < u.size
            · obtain ⟨D1, hD1⟩ : ∃ D1, D1 = dAt u v (i + 1) k := ⟨_, rfl⟩
              have H10 := hide (fun W hW => left_st u v hu hv B b0 b1 b2 (i + 1) k hi' hk n0 n1 n2 ((i : Int) + 1) (k : Int) (by omega) rfl D1 hD1 W hW)
              have hcmp : ((D1 : Int) == (D : Int) - 1) = false := by
                rw [beq_eq_false_iff_ne]
                intro e
                apply hdel
                refine ⟨hi', ?_⟩
                rw [← hD1, ← hD]; omega
              clear hD hD1 hD2 h00 hdel h0 hins
              have c0 := hS.c0
              go_wp2_with fail
              refine (H00.out _ hS).mono ?_
              rintro e wa ⟨rfl, hSa, hOa⟩
              have c0 := hSa.c0
              go_wp2_with fail
              refine (H10.out _ hSa).mono ?_
              rintro e wb ⟨rfl, hSb, hOb⟩
              have c0 := hSb.c0
              go_wp2_with fail
              refine (H00.out _ hSb).mono ?_
              rintro e wc ⟨rfl, hSc, hOc⟩
              have c1 := hSc.c1
              go_wp2_with fail
              refine (H01.out _ hSc).mono ?_
              rintro e wd ⟨rfl, hSd, hOd⟩
              have c1 := hSd.c1
              go_wp2_with fail
              refine (H00.out _ hSd).mono ?_
              rintro e we ⟨rfl, hSe, hOe⟩
              have c0 := hSe.c0
              have c1 := hSe.c1
              have hOO := ((((hOa.trans hOb).trans hOc).trans hOd).trans hOe)
              have hown1 := hown.one hOO (by omega)
              have hBw1 := hBw.trans (hOO.below (by omega))
              have hsz1 : b2 + 1 ≤ we.heap.size := by have := hOO.size; omega
              clear hSa hSb hSc hSd hOa hOb hOc hOd hOe hS hown hBw hsz hOO
              have hx1 : (0 : Int) ≤ (k : Int) := by omega
              have hx2 : (k : Int) < (v.size : Int) := by omega
              go_wp2_with (first
                | (go_at_call 64; refine (idx_letter _ _).mono ?_; rintro e wx ⟨rfl, rfl⟩)
                | (at_builtin; refine wpList_app_ev rfl (.tmp 75) (.tmp 82) rfl (b2 + 1) _ _ rfl (hown1.alloc _) we.heap.size ⟨5, i, 1, dig v[k]⟩ rfl (heap_alloc_new we _) (by omega) (by simp; omega) ?_; intro v1 wz hown2 hg1))
              have hbelw := below_appev ((Below.refl (b2 + 1) we).alloc hsz1 _) (by simp; omega) (hown1.alloc _) hg1
              have hS2 := hSe.below hbelw (by omega) (by omega) (by omega) (by omega)
              have hB4 := hBw1.trans (hbelw.mono (by omega))
              have hsz2 : b2 + 1 ≤ wz.heap.size := by have := hbelw.size; omega
              clear hg1 hown1 hSe hBw1 hbelw c0 c1
              go_roundw
              case rel =>
                refine ⟨_, i, k + 1, f, hown2, rfl, by go_num, hi, hk', by omega, by simp; omega, hide ?_, hS2, hB4, hsz2⟩
                rw [hE.out, hE2.out]; simp
              case measure => simp [intOf]; omega
            · have hi2 : decide (i < u.size) = false := by rw [decide_eq_false_iff_not]; exact hi'
              clear hD hD2 h00 hdel h0 hins hi'
              have c0 := hS.c0
              go_wp2_with fail
              refine (H00.out _ hS).mono ?_
              rintro e wa ⟨rfl, hSa, hOa⟩
              have c0 := hSa.c0
              have c1 := hSa.c1
              go_wp2_with fail
              refine (H01.out _ hSa).mono ?_
              rintro e wb ⟨rfl, hSb, hOb⟩
              have c1 := hSb.c1
              go_wp2_with fail
              refine (H00.out _ hSb).mono ?_
              rintro e wc ⟨rfl, hSc, hOc⟩
              have c0 := hSc.c0
              have c1 := hSc.c1
              have hOO := ((hOa.trans hOb).trans hOc)
              have hown1 := hown.one hOO (by omega)
              have hBw1 := hBw.trans (hOO.below (by omega))
              have hsz1 : b2 + 1 ≤ wc.heap.size := by have := hOO.size; omega
              clear hSa hSb hOa hOb hOc hS hown hBw hsz hOO
              have hx1 : (0 : Int) ≤ (k : Int) := by omega
              have hx2 : (k : Int) < (v.size : Int) := by omega
              go_wp2_with (first
                | (go_at_call 64; refine (idx_letter _ _).mono ?_; rintro e wx ⟨rfl, rfl⟩)
                | (at_builtin; refine wpList_app_ev rfl (.tmp 75) (.tmp 82) rfl (b2 + 1) _ _ rfl (hown1.alloc _) wc.heap.size ⟨5, i, 1, dig v[k]⟩ rfl (heap_alloc_new wc _) (by omega) (by simp; omega) ?_; intro v1 wz hown2 hg1))
              have hbelw := below_appev ((Below.refl (b2 + 1) wc).alloc hsz1 _) (by simp; omega) (hown1.alloc _) hg1
              have hS2 := hSc.below hbelw (by omega) (by omega) (by omega) (by omega)
              have hB4 := hBw1.trans (hbelw.mono (by omega))
              have hsz2 : b2 + 1 ≤ wz.heap.size := by have := hbelw.size; omega
              clear hg1 hown1 hSc hBw1 hbelw c0 c1
              go_roundw
              case rel =>
                refine ⟨_, i, k + 1, f, hown2, rfl, by go_num, hi, hk', by omega, by simp; omega, hide ?_, hS2, hB4, hsz2⟩
                rw [hE.out, hE2.out]; simp
              case measure => simp [intOf]; omega
          · have hi' : i < u.size := dAt_room2 h00 (fun h => hins h.2)
            have hE2 := hide (evs_skip f h00 hdel (fun h => hins h.2))
            have hcmp2 : ((D2 : Int) == (D : Int) - 1) = false := by
              rw [beq_eq_false_iff_ne]
              intro e
              apply hins
              rw [← hD2, ← hD]; omega
            obtain ⟨D1, hD1⟩ : ∃ D1, D1 = dAt u v (i + 1) k := ⟨_, rfl⟩
            have H10 := hide (fun W hW => left_st u v hu hv B b0 b1 b2 (i + 1) k hi' hk n0 n1 n2 ((i : Int) + 1) (k : Int) (by omega) rfl D1 hD1 W hW)
            have hcmp : ((D1 : Int) == (D : Int) - 1) = false := by
              rw [beq_eq_false_iff_ne]
              intro e
              apply hdel
              refine ⟨hi', ?_⟩
              rw [← hD1, ← hD]; omega
            clear hD hD1 hD2 h00 hdel h0 hins
            have c0 := hS.c0
            go_wp2_with fail
            refine (H00.out _ hS).mono ?_
            rintro e wa ⟨rfl, hSa, hOa⟩
            have c0 := hSa.c0
            go_wp2_with fail
            refine (H10.out _ hSa).mono ?_
            rintro e wb ⟨rfl, hSb, hOb⟩
            have c0 := hSb.c0
            go_wp2_with fail
            refine (H00.out _ hSb).mono ?_
            rintro e wc ⟨rfl, hSc, hOc⟩
            have c1 := hSc.c1
            go_wp2_with fail
            refine (H01.out _ hSc).mono ?_
            rintro e wd ⟨rfl, hSd, hOd⟩
            have c1 := hSd.c1
            go_wp2_with fail
            refine (H00.out _ hSd).mono ?_
            rintro e we ⟨rfl, hSe, hOe⟩
            have c0 := hSe.c0
            have c1 := hSe.c1
            have hOO := ((((hOa.trans hOb).trans hOc).trans hOd).trans hOe)
            have hown1 := hown.one hOO (by omega)
            have hBw1 := hBw.trans (hOO.below (by omega))
            have hsz1 : b2 + 1 ≤ we.heap.size := by have := hOO.size; omega
            clear hSa hSb hSc hSd hOa hOb hOc hOd hOe hS hown hBw hsz hOO
            clear c0 c1
            go_wp2
            go_roundw
            case rel =>
              refine ⟨_, i + 1, k + 1, f, hown1, by go_num, by go_num, hi', hk', by omega, by omega, hide ?_, hSe, hBw1, hsz1⟩
              rw [hE.out, hE2.out]
            case measure => simp [intOf]; omega
  · have h7 : (ckl [u, v] != 0) = true := by simpa using hc
    have HD := hide (show scriptV u v = ([], ckl [u, v]) by unfold scriptV; rw [if_neg hc])
    obtain ⟨z, hz⟩ : ∃ z, z = ckl [u, v] := ⟨_, rfl⟩
    rw [← hz] at h7 HD HI
    have HII := hide HI
    clear hc hz HI hrow
    go_enter Try.func28, Try.ntmps28
    go_wp2_with fail
    refine HII.out.mono ?_
    rintro e w1 ⟨rfl, q, rfl⟩
    obtain ⟨hBl, hz1, e0, e1⟩ := boxes3 w u v q
    generalize (((w.alloc (Obj.cells #[Value.string u] 9)).alloc (Obj.cells #[Value.string v] 9)).alloc (Obj.cells #[Value.string u, Value.string v] 9)).drewN q = W1 at hBl hz1 e0 e1 ⊢
    go_wp2
    go_ret2
    refine ⟨_, by rw [HD.out]; rfl, ?_, hBl⟩
    rw [HD.out]
    exact Evs.nil_ _ _
end Go.Proofs.Ytmajalpmbppkpaa
