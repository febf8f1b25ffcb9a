import Derived.Test.YtbnpjoiojhnimaaGreatDoorG14
import Derived.Test.YtbnpjoiojhnimaaGreatDoorG15
set_option linter.unusedSimpArgs false
set_option linter.unusedVariables false
/- matrix.product and its closure: their contracts. -/
namespace Go.Proofs.YtbnpjoiojhnimaaGreatDoor
open Go.RowKit Go.Shelf
section
attribute [local go_sem] Oper.semAt_some
def dotV (a b : Nat → Nat → Int) (i k : Nat) : Nat → Int
 | 0 => 0
 | j + 1 => dotV a b i k j + a i j * b j k
theorem keepsFrom_below {B N : Nat} {W W' : World} (h : Below N W W') (hN : W.heap.size ≤ N) : KeepsFrom B W W' :=
 ⟨h.size, fun k o _ hk _ => (h.block k (Nat.lt_of_lt_of_le (Array.getElem?_eq_some_iff.1 hk).1 hN)).trans hk⟩
theorem keepsFrom_set {B : Nat} {W : World} (p : Addr) (v : Value) (hp : p.block < B) : KeepsFrom B W (W.setCell p v) :=
 ⟨((Below.refl 0 W).setCell (p := p) (Nat.zero_le _) v).size, fun k o hB hk _ => (Below.heap_setCell W p v k (by omega)).trans hk⟩
theorem ResI.kept {A B : World} {row : Option Nat} {b : Nat} {s : Bool} {t : ByteArray} (h : ResI A b s t) (hg : A.grownBy B row) (hr : ∀ r, row = some r → ∃ o : Obj, A.heap[r]? = some o ∧ o.isCells = false) : ResI B b s t := by
 have hlt := (Array.getElem?_eq_some_iff.1 h).1
 refine (hg.block b hlt (fun e => ?_)).trans h
 obtain ⟨o, h1, h2⟩ := hr b e.symm
 rw [show A.heap[b]? = _ from h] at h1
 cases h1
 cases h2
def KpP (N c : Nat) (W W' : World) : Prop := Below N W W' ∧ (c < W.heap.size → W'.heap[c]? = W.heap[c]?)
theorem KpP.refl (N c : Nat) (W : World) : KpP N c W W := ⟨Below.refl _ _, fun _ => rfl⟩
theorem KpP.trans {N c : Nat} {X Y Z : World} (h : KpP N c X Y) (k : KpP N c Y Z) : KpP N c X Z :=
 ⟨h.1.trans k.1, fun hc => (k.2 (Nat.lt_of_lt_of_le hc h.1.size)).trans (h.2 hc)⟩
theorem kpP_b {N c : Nat} {w : World} (hN : N ≤ w.heap.size) (hc : c < w.heap.size) : ∀ (W : World) (l : Nat) (o o' : Obj), w.heap.size ≤ l → W.heap[l]? = some o → o.isCells = false → o.isWalk = false → KpP N c W (W.putObj l o') := by
 intro W l o o' hl h1 h2 h3
 refine ⟨belowK_b (w := w) hN W l o o' hl h1 h2 h3, fun _ => ?_⟩
 have := (belowK_b (n₀ := c + 1) (w := w) (by omega) W l o o' hl h1 h2 h3).block c (Nat.lt_succ_self _)
 exact this
theorem Sml.le {N M : Nat} (h : Sml N) (hle : M ≤ N) : Sml M := by
 obtain ⟨m, hm, h⟩ := h
 exact ⟨m, hm, Nat.lt_of_le_of_lt hle h⟩
abbrev PE (b : Nat → Nat → Int) (q k : Nat) := { p : Nat × Int // p.1 < q ∧ Hid (p.2 = b p.1 k) }
def encP {b : Nat → Nat → Int} {q k : Nat} (x : PE b q k) : Array Value := encC x.1
def sumP (a : Nat → Nat → Int) (i : Nat) {b : Nat → Nat → Int} {q k : Nat} (pre : List (PE b q k)) : Int := pre.foldl (fun s x => s + a i x.1.1 * x.1.2) 0
def colP (b : Nat → Nat → Int) (q k : Nat) : List (PE b q k) := List.ofFn fun j : Fin q => ⟨(j.1, b j.1 k), j.2, hide rfl⟩
theorem colP_len (b : Nat → Nat → Int) (q k : Nat) : (colP b q k).length = q := by simp [colP]
theorem sumP_snoc (a : Nat → Nat → Int) (i : Nat) {b : Nat → Nat → Int} {q k : Nat} (pre : List (PE b q k)) (x : PE b q k) : sumP a i (pre ++ [x]) = sumP a i pre + a i x.1.1 * x.1.2 := by
 unfold sumP; rw [List.foldl_append]; rfl
theorem sumP_take (a : Nat → Nat → Int) (i : Nat) (b : Nat → Nat → Int) (q k : Nat) : ∀ j, j ≤ q → sumP a i ((colP b q k).take j) = dotV a b i k j
 | 0, _ => rfl
 | j + 1, h => by
  rw [List.take_succ_eq_append_getElem (by rw [colP_len]; omega), sumP_snoc, sumP_take a i b q k j (by omega)]
  simp [colP, dotV]
theorem sumP_all (a : Nat → Nat → Int) (i : Nat) (b : Nat → Nat → Int) (q k : Nat) : sumP a i (colP b q k) = dotV a b i k q := by
 have := sumP_take a i b q k q (Nat.le_refl _)
 rw [List.take_of_length_le (by rw [colP_len]; exact Nat.le_refl _)] at this
 exact this
theorem prod_le {x y : Int} {A B : Nat} (hx : x.natAbs ≤ A) (hy : y.natAbs ≤ B) : (x * y).natAbs ≤ A * B := by rw [Int.natAbs_mul]; exact Nat.mul_le_mul hx hy
theorem sumP_le (a : Nat → Nat → Int) (i : Nat) {b : Nat → Nat → Int} {q k : Nat} {A B : Nat} (ha : ∀ j, j < q → (a i j).natAbs ≤ A) (hb : ∀ j, j < q → (b j k).natAbs ≤ B) (pre : List (PE b q k)) : (sumP a i pre).natAbs ≤ pre.length * (A * B) := by
 have key : ∀ (pre : List (PE b q k)) (s : Int), (pre.foldl (fun s x => s + a i x.1.1 * x.1.2) s).natAbs ≤ s.natAbs + pre.length * (A * B) := by
  intro pre
  induction pre with
  | nil => intro s; simp
  | cons x t ih =>
   intro s
   have h1 := ih (s + a i x.1.1 * x.1.2)
   have h2 := prod_le (ha _ x.2.1) (show x.1.2.natAbs ≤ B by rw [x.2.2.out]; exact hb _ x.2.1)
   have h3 := Int.natAbs_add_le s (a i x.1.1 * x.1.2)
   simp only [List.foldl_cons, List.length_cons, Nat.add_mul, Nat.one_mul]
   omega
 have := key pre 0
 simpa [sumP] using this
def InvP (w : World) (a : Nat → Nat → Int) (i : Nat) {b : Nat → Nat → Int} {q k : Nat} (pre : List (PE b q k)) (W : World) : Prop :=
 (W.cell? ⟨w.heap.size, 0, none⟩ = some (.int .i64 (i : Int)) ∧ ResI W (w.heap.size + 1) false ⟨#[]⟩ ∧ ResI W (w.heap.size + 1 + 1) (ng (sumP a i pre)) (mgI (sumP a i pre))) ∧ Below w.heap.size w W
set_option maxRecDepth 100000 in
set_option maxHeartbeats 4000000 in
theorem mxProductf_any (Ga Gb m q n ca cb i k : Nat) (a b : Nat → Nat → Int) (w : World) (hi : i < m) (hk : k < n) (hq : q ≤ 40) (hMa : Mat w Ga m q a) (hMb : Mat w Gb q n b)
  (hca : w.cell? ⟨ca, 0, none⟩ = some (.slice (some ⟨Ga, 0, none⟩) m m)) (hcb : w.cell? ⟨cb, 0, none⟩ = some (.slice (some ⟨Gb, 0, none⟩) q q))
  (A B : Nat) (ha : ∀ j, j < q → (a i j).natAbs ≤ A) (hb : ∀ j, j < q → (b j k).natAbs ≤ B) (hsA : Sml A) (hsB : Sml B) (hs : Sml (41 * (A * B))) :
  Calls Tryz.prog 187 #[.int .i64 (i : Int), .int .i64 (k : Int), .pointer (some ⟨cb, 0, none⟩), .pointer (some ⟨ca, 0, none⟩)] w fun e w' => e = .returned (.agg #[.bool (ng (dotV a b i k q)), .string (mgI (dotV a b i k q))]) ∧ Below w.heap.size w w' := by
 refine (callsIn_wide (n := 3)).1 ?_
 have hcal := World.block_lt_of_cell? w _ hca
 have hcbl := World.block_lt_of_cell? w _ hcb
 have hGb := hMb.lt
 have HCol := hide (fun W => callsIn_wide (n := 2).2 (column_in Gb q (k : Int) W))
 have hB3 : Below w.heap.size w (((w.alloc (.cells #[.int .i64 (i : Int)] 3)).alloc (.cells #[.bool false, .string ⟨#[]⟩] 55)).alloc (.cells #[.bool false, .string ⟨#[]⟩] 55)) := (((Below.refl _ w).alloc (Nat.le_refl _) _).alloc (by simp) _).alloc (by simp; omega) _
 have hz3 : (((w.alloc (.cells #[.int .i64 (i : Int)] 3)).alloc (.cells #[.bool false, .string ⟨#[]⟩] 55)).alloc (.cells #[.bool false, .string ⟨#[]⟩] 55)).heap.size = w.heap.size + 1 + 1 + 1 := by simp
 have eb := (hB3.cell (p := ⟨cb, 0, none⟩) hcbl).trans hcb
 have i3 : (((w.alloc (.cells #[.int .i64 (i : Int)] 3)).alloc (.cells #[.bool false, .string ⟨#[]⟩] 55)).alloc (.cells #[.bool false, .string ⟨#[]⟩] 55)).cell? ⟨w.heap.size, 0, none⟩ = some (.int .i64 (i : Int)) := by
  rw [World.cell?_alloc_lt _ _ _ (by simp; omega), World.cell?_alloc_lt _ _ _ (by simp)]; exact cell_of_one (heap_alloc_new _ _)
 have r3 : ResI (((w.alloc (.cells #[.int .i64 (i : Int)] 3)).alloc (.cells #[.bool false, .string ⟨#[]⟩] 55)).alloc (.cells #[.bool false, .string ⟨#[]⟩] 55)) (w.heap.size + 1) false ⟨#[]⟩ := by
  have h := ResI.new_ (w.alloc (.cells #[.int .i64 (i : Int)] 3)) false ⟨#[]⟩
  rw [World.size_alloc] at h
  exact h.below ((Below.refl (w.heap.size + 1 + 1) _).alloc (by simp) _) (by omega)
 have n3 : ResI (((w.alloc (.cells #[.int .i64 (i : Int)] 3)).alloc (.cells #[.bool false, .string ⟨#[]⟩] 55)).alloc (.cells #[.bool false, .string ⟨#[]⟩] 55)) (w.heap.size + 1 + 1) false ⟨#[]⟩ := by
  have h := ResI.new_ ((w.alloc (.cells #[.int .i64 (i : Int)] 3)).alloc (.cells #[.bool false, .string ⟨#[]⟩] 55)) false ⟨#[]⟩
  rw [World.size_alloc, World.size_alloc] at h
  exact h
 refine callsIn_of_wp_marks Tryz.func187 rfl trivial ?_ rfl
 simp only [Tryz.ntmps187, List.size_toArray, List.length_cons, List.length_nil, Nat.reduceAdd, Nat.reduceSub, Array.replicate_succ, Array.replicate_zero, List.push_toArray, List.append_toArray, List.nil_append, List.cons_append]
 gi_wp2_with fail
 generalize hW3 : ((w.alloc (.cells #[.int .i64 (i : Int)] 3)).alloc (.cells #[.bool false, .string ⟨#[]⟩] 55)).alloc (.cells #[.bool false, .string ⟨#[]⟩] 55) = W3 at hB3 hz3 eb i3 r3 n3 ⊢
 clear hW3
 refine ⟨trivial, ?_⟩
 gi_at_call 188
 (with_reducible refine (HCol.out _).mono ?_)
 rintro e w' ⟨rfl, rfl⟩
 have hB5 : Below w.heap.size w ((W3.alloc (.cells #[.slice (some ⟨Gb, 0, none⟩) q q] 36)).alloc (.cells #[.int .i64 (k : Int)] 3)) := (hB3.alloc (by omega) _).alloc (by simp; omega) _
 have hB35 : Below (w.heap.size + 1 + 1 + 1) W3 ((W3.alloc (.cells #[.slice (some ⟨Gb, 0, none⟩) q q] 36)).alloc (.cells #[.int .i64 (k : Int)] 3)) := ((Below.refl _ W3).alloc (by omega) _).alloc (by simp; omega) _
 have hz5 : ((W3.alloc (.cells #[.slice (some ⟨Gb, 0, none⟩) q q] 36)).alloc (.cells #[.int .i64 (k : Int)] 3)).heap.size = w.heap.size + 1 + 1 + 1 + 1 + 1 := by simp; omega
 have i5 := (hB35.cell (p := ⟨w.heap.size, 0, none⟩) (by show w.heap.size < _; omega)).trans i3
 have r5 := r3.below hB35 (by omega)
 have n5 := n3.below hB35 (by omega)
 have cb5 : ((W3.alloc (.cells #[.slice (some ⟨Gb, 0, none⟩) q q] 36)).alloc (.cells #[.int .i64 (k : Int)] 3)).cell? ⟨w.heap.size + 1 + 1 + 1, 0, none⟩ = some (.slice (some ⟨Gb, 0, none⟩) q q) := by
  rw [← hz3, World.cell?_alloc_lt _ _ _ (by simp)]; exact cell_of_one (heap_alloc_new _ _)
 have ck5 : ((W3.alloc (.cells #[.slice (some ⟨Gb, 0, none⟩) q q] 36)).alloc (.cells #[.int .i64 (k : Int)] 3)).heap[w.heap.size + 1 + 1 + 1 + 1]? = some (.cells #[.int .i64 (k : Int)] 3 (0, 0)) := by
  have := heap_alloc_new (W3.alloc (.cells #[.slice (some ⟨Gb, 0, none⟩) q q] 36)) (.cells #[.int .i64 (k : Int)] 3)
  rw [World.size_alloc, hz3] at this
  exact this
 rw [hz3]
 generalize (W3.alloc (.cells #[.slice (some ⟨Gb, 0, none⟩) q q] 36)).alloc (.cells #[.int .i64 (k : Int)] 3) = W5 at hB5 hz5 i5 r5 n5 cb5 ck5 ⊢
 clear hB3 hz3 eb i3 r3 n3 hB35 HCol
 gi_wp2
 have HMb := hide hMb
 have HMa := hide hMa
 have HCA := hide hca
 have HCK := hide ck5
 have HB5 := hide hB5
 have HZ5 := hide hz5
 clear hMb hMa hca hcb hcbl ck5
 refine wpIn_rangeFunc_ownH rfl (by omega) (gf := 240) (lb := #[.pointer (some ⟨w.heap.size + 1 + 1 + 1, 0, none⟩), .pointer (some ⟨w.heap.size + 1 + 1 + 1 + 1, 0, none⟩)]) rfl trivial (enters_of Tryz.func240 (by kernel_rfl) rfl)
  (columnf_stops (colP b q k) encP Fence.wide 2 trivial rfl (by omega) (w.heap.size + 1 + 1 + 1) (w.heap.size + 1 + 1 + 1 + 1) Gb q n k b hk hq (KpP w.heap.size (w.heap.size + 1 + 1 + 1 + 1)) (KpP.refl _ _) (fun h k => h.trans k) (colP_len b q k) (fun j h => by simp [colP, encP]) W5
   (fun W W' hW hK => ⟨HMb.out.below ((HB5.out.trans (hW.mono (by rw [HZ5.out]; omega))).trans hK.1) (Nat.le_refl _), by
    have h1 := (hW.block (w.heap.size + 1 + 1 + 1 + 1) (by rw [HZ5.out]; omega)).trans HCK.out
    have h2 := (hK.2 (Array.getElem?_eq_some_iff.1 h1).1).trans h1
    exact cell_of_one h2⟩) cb5)
  (fun h k => h.trans k) (kpP_b (w := W5) (by rw [HZ5.out]; omega) (by rw [HZ5.out]; omega)) (Below.refl _ _) (fun _ => rfl)
  (InvP w a i)
  (fun _ _ _ => False)
  (OwnFrom.and (fun s A B row hs hg hr => ⟨cell_kept hs.1 hg (fun r e => (hr r e).2), hs.2.1.kept hg (fun r e => (hr r e).2), hs.2.2.kept hg (fun r e => (hr r e).2)⟩) (ownFrom_below (Nat.le_refl _) (by rw [HZ5.out]; omega)))
  (fun _ _ _ _ _ hs _ _ => hs)
  ⟨⟨i5, r5, by rw [show sumP a i ([] : List (PE b q k)) = 0 from rfl, mgI_zero]; exact n5⟩, hB5⟩
  (fun x a' W => ∃ X, w.heap.size + 1 + 1 < X ∧ ResI W X (ng x.1.2) (mgI x.1.2) ∧ a' = { tmps := #[.int .i64 (i : Int), .int .i64 (k : Int), .pointer (some ⟨cb, 0, none⟩), .pointer (some ⟨ca, 0, none⟩), .pointer (some ⟨w.heap.size, 0, none⟩), undef, .pointer (some ⟨w.heap.size + 1, 0, none⟩), .pointer (some ⟨w.heap.size + 1 + 1, 0, none⟩), .int .i64 (x.1.1 : Int), .pointer (some ⟨X, 0, none⟩), .slice (some ⟨Gb, 0, none⟩) q q, .int .i64 (k : Int), .func (.func 240) #[] #[.pointer (some ⟨w.heap.size + 1 + 1 + 1, 0, none⟩), .pointer (some ⟨w.heap.size + 1 + 1 + 1 + 1, 0, none⟩)], .int .i64 (x.1.1 : Int), .agg #[.bool (ng x.1.2), .string (mgI x.1.2)], undef, undef, undef, undef, undef, undef, undef, undef, undef, undef, undef, undef], defers := [] })
  ?hax ?assign ?body ?done ?stop
 case hax =>
  intro x a' s X Y row hs hg hrow
  obtain ⟨Bx, h1, h2, h3⟩ := hs
  exact ⟨Bx, h1, h2.kept hg (fun r e => (hrow r e).2), h3⟩
 case assign =>
  rintro l pre x W K ⟨⟨h1, h2, h3⟩, hB⟩ hK
  obtain ⟨⟨xj, xz⟩, hx1, hx2⟩ := x
  simp only [encP, encC] at hK ⊢
  have hl3 := (Array.getElem?_eq_some_iff.1 h3).1
  have hA : Below W.heap.size W (W.alloc (.cells #[.bool (ng xz), .string (mgI xz)] 55)) := (Below.refl _ W).alloc (Nat.le_refl _) _
  have HI : InvP w a i pre (W.alloc (.cells #[.bool (ng xz), .string (mgI xz)] 55)) := ⟨⟨(hA.cell (p := ⟨w.heap.size, 0, none⟩) (by show w.heap.size < _; omega)).trans h1, h2.below hA (by omega), h3.below hA (by omega)⟩, hB.trans (hA.mono (by omega))⟩
  have HK : KpP w.heap.size (w.heap.size + 1 + 1 + 1 + 1) W (W.alloc (.cells #[.bool (ng xz), .string (mgI xz)] 55)) := ⟨hA.mono (by omega), fun hc => hA.block _ hc⟩
  have HX := ResI.new_ W (ng xz) (mgI xz)
  clear h1 h2 h3 hB
  gi_wp2
  exact hK _ _ ((KeepsOthers.alloc _ _).from _) HK HI ⟨W.heap.size, hl3, HX, rfl⟩
 case body =>
  rintro l pre x a' W _ _ ⟨⟨h1, h2, h3⟩, hB⟩ ⟨X, hX, hx, rfl⟩ hlen
  have hsum := sumP_snoc a i pre x
  have hsb := sumP_le a i ha hb pre
  have hsb2 := sumP_le a i ha hb (pre ++ [x])
  obtain ⟨⟨xj, xz⟩, hx1, hx2⟩ := x
  have hcA := hB.cell (p := ⟨ca, 0, none⟩) hcal
  have eA := hcA.trans HCA.out
  obtain ⟨R, hR, eh, ec⟩ := HMa.out.read hi
  obtain ⟨eb0, eb1⟩ := ec xj hx1
  have hGa := HMa.out.lt
  replace eh := (hB.cell (p := ⟨Ga, i, none⟩) hGa).trans eh
  replace eb0 := (hB.cell (p := ⟨R, xj * 2, none⟩) hR).trans eb0
  replace eb1 := (hB.cell (p := ⟨R, xj * 2 + 1, none⟩) hR).trans eb1
  have hal := ha xj hx1
  have hbl : xz.natAbs ≤ B := by rw [show xz = b xj k from hx2.out]; exact hb xj hx1
  have hpl := prod_le hal hbl
  have hml : pre.length * (A * B) ≤ 40 * (A * B) := Nat.mul_le_mul_right _ (by omega)
  obtain ⟨s, hsv⟩ : ∃ s, sumP a i pre = s := ⟨_, rfl⟩
  obtain ⟨y, hy⟩ : ∃ y, a i xj = y := ⟨_, rfl⟩
  simp only at hsum
  rw [hsv] at h3 hsum hsb
  rw [hy] at eb0 eb1 hal hpl hsum
  have HMul := hide (fun W => iMul_g y xz W (hsA.le hal) (hsB.le hbl))
  have HAdd := hide (fun W => iAdd_g s (y * xz) W (hs.le (by omega)) (hs.le (by omega)))
  have HSum := hide hsum
  have HLT := hide (Array.getElem?_eq_some_iff.1 h3).1
  have hx0 := hx.c0
  have hx1' := hx.c1
  have n0 := h3.c0
  have n1 := h3.c1
  have i0 : (0 : Int) ≤ (i : Int) := by omega
  have i1 : (i : Int) < (m : Int) := by omega
  have j0 : (0 : Int) ≤ (xj : Int) := by omega
  have j1 : (xj : Int) < (q : Int) := by omega
  clear hsum hsb hsb2 hcA ec hal hbl hpl hml hsv hy
  have hmx : Tryz.prog.follows .mixedOrders = true := by kernel_rfl
  gi_wp2
  have hlZ := HLT.out
  have hXl := (Array.getElem?_eq_some_iff.1 hx).1
  have hSb := hide (show ∀ W1 : World, (∀ b, b ≠ w.heap.size + 1 + 1 → b < W.heap.size → W1.heap[b]? = W.heap[b]?) → (fun W' : World => W'.cell? ⟨ca, 0, none⟩ = some (.slice (some ⟨Ga, 0, none⟩) m m) ∧ W'.cell? ⟨w.heap.size, 0, none⟩ = some (.int .i64 (i : Int)) ∧ W'.cell? ⟨Ga, i, none⟩ = some (.slice (some ⟨R, 0, none⟩) q q) ∧ W'.cell? ⟨R, xj * 2, none⟩ = some (.bool (ng y)) ∧ W'.cell? ⟨R, xj * 2 + 1, none⟩ = some (.string (mgI y)) ∧ W'.cell? ⟨X, 0, none⟩ = some (.bool (ng xz)) ∧ W'.cell? ⟨X, 1, none⟩ = some (.string (mgI xz))) W1 from fun W1 hW1 => ⟨(World.cell?_of_block (hW1 ca (by omega) (by omega))).trans eA, (World.cell?_of_block (hW1 w.heap.size (by omega) (by omega))).trans h1, (World.cell?_of_block (hW1 Ga (by omega) (by omega))).trans eh, (World.cell?_of_block (hW1 R (by omega) (by omega))).trans eb0, (World.cell?_of_block (hW1 R (by omega) (by omega))).trans eb1, (World.cell?_of_block (hW1 X (by omega) (by omega))).trans hx0, (World.cell?_of_block (hW1 X (by omega) (by omega))).trans hx1'⟩)
  have hSall := hide (show ∀ W1, Below W.heap.size W W1 → (fun W' : World => W'.cell? ⟨ca, 0, none⟩ = some (.slice (some ⟨Ga, 0, none⟩) m m) ∧ W'.cell? ⟨w.heap.size, 0, none⟩ = some (.int .i64 (i : Int)) ∧ W'.cell? ⟨Ga, i, none⟩ = some (.slice (some ⟨R, 0, none⟩) q q) ∧ W'.cell? ⟨R, xj * 2, none⟩ = some (.bool (ng y)) ∧ W'.cell? ⟨R, xj * 2 + 1, none⟩ = some (.string (mgI y)) ∧ W'.cell? ⟨X, 0, none⟩ = some (.bool (ng xz)) ∧ W'.cell? ⟨X, 1, none⟩ = some (.string (mgI xz))) W1 from fun W1 hW1 => hSb.out W1 fun b _ hb => hW1.block b hb)
  have hSst := hide (show ∀ W1 u v, Below W.heap.size W W1 → (fun W' : World => W'.cell? ⟨ca, 0, none⟩ = some (.slice (some ⟨Ga, 0, none⟩) m m) ∧ W'.cell? ⟨w.heap.size, 0, none⟩ = some (.int .i64 (i : Int)) ∧ W'.cell? ⟨Ga, i, none⟩ = some (.slice (some ⟨R, 0, none⟩) q q) ∧ W'.cell? ⟨R, xj * 2, none⟩ = some (.bool (ng y)) ∧ W'.cell? ⟨R, xj * 2 + 1, none⟩ = some (.string (mgI y)) ∧ W'.cell? ⟨X, 0, none⟩ = some (.bool (ng xz)) ∧ W'.cell? ⟨X, 1, none⟩ = some (.string (mgI xz))) ((W1.setCell ⟨w.heap.size + 1 + 1, 0, none⟩ u).setCell ⟨w.heap.size + 1 + 1, 1, none⟩ v) from fun W1 u v hW1 => hSb.out _ fun b hne hb => (Below.heap_setCell _ ⟨w.heap.size + 1 + 1, 1, none⟩ _ b hne).trans ((Below.heap_setCell _ ⟨w.heap.size + 1 + 1, 0, none⟩ _ b hne).trans (hW1.block b hb)))
  have hD : Below W.heap.size W W.drew := (Below.refl _ _).drew
  clear n0 n1 eA h1 eh eb0 eb1 hx0 hx1' hSb
  refine region_in_round (S := fun W' => W'.cell? ⟨ca, 0, none⟩ = some (.slice (some ⟨Ga, 0, none⟩) m m) ∧ W'.cell? ⟨w.heap.size, 0, none⟩ = some (.int .i64 (i : Int)) ∧ W'.cell? ⟨Ga, i, none⟩ = some (.slice (some ⟨R, 0, none⟩) q q) ∧ W'.cell? ⟨R, xj * 2, none⟩ = some (.bool (ng y)) ∧ W'.cell? ⟨R, xj * 2 + 1, none⟩ = some (.string (mgI y)) ∧ W'.cell? ⟨X, 0, none⟩ = some (.bool (ng xz)) ∧ W'.cell? ⟨X, 1, none⟩ = some (.string (mgI xz))) (by kernel_rfl) (by kernel_rfl) (hSall.out _ hD) (fun hHeld => ?_)
  refine wpAnyH_take (i := 1) (oi := _) (v := ?v1) rfl (by kernel_rfl) (by kernel_rfl) (by kernel_rfl) (fun _ _ _ h => h) (Or.inl ⟨by rfl, ?hy1⟩) (by assumption) ?rest1
  case hy1 => (intro w hSw; (try dsimp only at hSw); go_simp; (try with_reducible rfl))
  (try simp only [List.getElem_toArray, List.getElem_cons_zero, List.getElem_cons_succ, Act.put, List.setIfInBounds_toArray, List.set_cons_zero, List.set_cons_succ])
  refine wpAnyH_take (i := 2) (oi := _) (v := ?v2) rfl (by kernel_rfl) (by kernel_rfl) (by kernel_rfl) (fun _ _ _ h => h) (Or.inl ⟨by rfl, ?hy2⟩) (by assumption) ?rest2
  case hy2 => (intro w hSw; (try dsimp only at hSw); go_simp; (try with_reducible rfl))
  (try simp only [List.getElem_toArray, List.getElem_cons_zero, List.getElem_cons_succ, Act.put, List.setIfInBounds_toArray, List.set_cons_zero, List.set_cons_succ])
  refine wpAnyH_take (i := 3) (oi := _) (v := ?v3) rfl (by kernel_rfl) (by kernel_rfl) (by kernel_rfl) (fun _ _ _ h => h) (Or.inl ⟨by rfl, ?hy3⟩) (by assumption) ?rest3
  case hy3 => (intro w hSw; (try dsimp only at hSw); go_simp; (try with_reducible rfl))
  (try simp only [List.getElem_toArray, List.getElem_cons_zero, List.getElem_cons_succ, Act.put, List.setIfInBounds_toArray, List.set_cons_zero, List.set_cons_succ])
  refine wpAnyH_take (i := 4) (oi := _) (v := ?v4) rfl (by kernel_rfl) (by kernel_rfl) (by kernel_rfl) (fun _ _ _ h => h) (Or.inl ⟨by rfl, ?hy4⟩) (by assumption) ?rest4
  case hy4 => (intro w hSw; (try dsimp only at hSw); go_simp; (try with_reducible rfl))
  (try simp only [List.getElem_toArray, List.getElem_cons_zero, List.getElem_cons_succ, Act.put, List.setIfInBounds_toArray, List.set_cons_zero, List.set_cons_succ])
  refine wpAnyH_take (i := 5) (oi := _) (v := ?v5) rfl (by kernel_rfl) (by kernel_rfl) (by kernel_rfl) (fun _ _ _ h => h) (Or.inl ⟨by rfl, ?hy5⟩) (by assumption) ?rest5
  case hy5 => (intro w hSw; (try dsimp only at hSw); go_simp; (try with_reducible rfl))
  (try simp only [List.getElem_toArray, List.getElem_cons_zero, List.getElem_cons_succ, Act.put, List.setIfInBounds_toArray, List.set_cons_zero, List.set_cons_succ])
  refine wpAnyH_take (i := 6) (oi := _) (v := ?v6) rfl (by kernel_rfl) (by kernel_rfl) (by kernel_rfl) (fun _ _ _ h => h) (Or.inl ⟨by rfl, ?hy6⟩) (by assumption) ?rest6
  case hy6 => (intro w hSw; (try dsimp only at hSw); go_simp; (try with_reducible rfl))
  (try simp only [List.getElem_toArray, List.getElem_cons_zero, List.getElem_cons_succ, Act.put, List.setIfInBounds_toArray, List.set_cons_zero, List.set_cons_succ])
  refine wpAnyH_take (i := 7) (oi := _) (v := ?v7) rfl (by kernel_rfl) (by kernel_rfl) (by kernel_rfl) (fun _ _ _ h => h) (Or.inl ⟨by rfl, ?hy7⟩) (by assumption) ?rest7
  case hy7 => (intro w hSw; (try dsimp only at hSw); go_simp; (try with_reducible rfl))
  (try simp only [List.getElem_toArray, List.getElem_cons_zero, List.getElem_cons_succ, Act.put, List.setIfInBounds_toArray, List.set_cons_zero, List.set_cons_succ])
  refine wpAnyH_take (i := 8) (oi := _) (v := ?v8) rfl (by kernel_rfl) (by kernel_rfl) (by kernel_rfl) (fun _ _ _ h => h) (Or.inl ⟨by rfl, ?hy8⟩) (by assumption) ?rest8
  case hy8 => (intro w hSw; (try dsimp only at hSw); go_simp; (try with_reducible rfl))
  (try simp only [List.getElem_toArray, List.getElem_cons_zero, List.getElem_cons_succ, Act.put, List.setIfInBounds_toArray, List.set_cons_zero, List.set_cons_succ])
  have n0 := (show ResI W.drew (w.heap.size + 1 + 1) (ng s) (mgI s) from h3).c0
  have n1 := (show ResI W.drew (w.heap.size + 1 + 1) (ng s) (mgI s) from h3).c1
  refine wpAnyH_ready (rs := [0, 9]) (by kernel_rfl) (by simp) ?_
  refine AllReadyH.cons (o := _) rfl (fun K hK => ?_) (AllReadyH.cons (o := _) rfl (fun K hK => ?_) AllReadyH.nil)
  ·go_simp
   refine hK.out _ _ ?_ (fun hHeld => ?_)
   ·exact hHeld
   clear hK K
   (try simp only [List.getElem_toArray, List.getElem_cons_zero, List.getElem_cons_succ, Act.put, List.setIfInBounds_toArray, List.set_cons_zero, List.set_cons_succ])
   refine wpAnyH_ready (rs := [9]) (by kernel_rfl) (by simp) ?_
   refine AllReadyH.cons (o := _) rfl (fun K hK => ?_) AllReadyH.nil
   go_simp
   (with_reducible refine (HMul.out _).mono ?_)
   rintro e w1 ⟨rfl, hB1⟩
   have hBw : Below W.heap.size W w1 := hD.trans hB1
   have hS1 := hide (hSall.out _ hBw)
   have n3 := h3.below hBw HLT.out
   have k0 := n3.c0
   have k1 := n3.c1
   (try go_wp2_with fail)
   refine hK.out _ _ ?_ (fun hHeld => ?_)
   ·exact hS1.out
   clear hK K
   (try simp only [List.getElem_toArray, List.getElem_cons_zero, List.getElem_cons_succ, Act.put, List.setIfInBounds_toArray, List.set_cons_zero, List.set_cons_succ])
   refine wpAnyH_ready (rs := [10]) (by kernel_rfl) (by simp) ?_
   refine AllReadyH.cons (o := _) rfl (fun K hK => ?_) AllReadyH.nil
   go_simp
   (with_reducible refine (HAdd.out _).mono ?_)
   rintro e w2 ⟨rfl, hB2⟩
   have hBw2 : Below W.heap.size W w2 := hBw.trans (hB2.mono hBw.size)
   have hS2 := hide (hSall.out _ hBw2)
   have m3 := h3.below hBw2 HLT.out
   have j0 := m3.c0
   have j1 := m3.c1
   have m0 := m3.z0
   have m1 := m3.z1
   (try go_wp2_with fail)
   refine hK.out _ _ ?_ (fun hHeld => ?_)
   ·exact hS2.out
   clear hK K
   (try simp only [List.getElem_toArray, List.getElem_cons_zero, List.getElem_cons_succ, Act.put, List.setIfInBounds_toArray, List.set_cons_zero, List.set_cons_succ])
   refine wpAnyH_ready (rs := [11]) (by kernel_rfl) (by simp) ?_
   refine AllReadyH.cons (o := _) rfl (fun K hK => ?_) AllReadyH.nil
   go_simp
   refine hK.out _ _ ?_ (fun hHeld => ?_)
   ·exact hSst.out _ _ _ hBw2
   clear hK K
   (try simp only [List.getElem_toArray, List.getElem_cons_zero, List.getElem_cons_succ, Act.put, List.setIfInBounds_toArray, List.set_cons_zero, List.set_cons_succ])
   refine wpAnyH_done (by kernel_rfl) ?_ _
   refine OnlyN.mk ?_
   have hB9 : Below (w.heap.size + 1 + 1) W ((w2.setCell ⟨w.heap.size + 1 + 1, 0, none⟩ (.bool (ng (s + y * xz)))).setCell ⟨w.heap.size + 1 + 1, 1, none⟩ (.string (mgI (s + y * xz)))) := Below.pair (hBw2.mono (by omega)) (Nat.le_refl _) _ _
   have hsz5 := HZ5.out
   have hKF : KeepsFrom W5.heap.size W ((w2.setCell ⟨w.heap.size + 1 + 1, 0, none⟩ (.bool (ng (s + y * xz)))).setCell ⟨w.heap.size + 1 + 1, 1, none⟩ (.string (mgI (s + y * xz)))) := ((keepsFrom_below hBw2 (Nat.le_refl _)).trans (keepsFrom_set ⟨w.heap.size + 1 + 1, 0, none⟩ _ (by show w.heap.size + 1 + 1 < _; omega))).trans (keepsFrom_set ⟨w.heap.size + 1 + 1, 1, none⟩ _ (by show w.heap.size + 1 + 1 < _; omega))
   have hKP : KpP w.heap.size (w.heap.size + 1 + 1 + 1 + 1) W ((w2.setCell ⟨w.heap.size + 1 + 1, 0, none⟩ (.bool (ng (s + y * xz)))).setCell ⟨w.heap.size + 1 + 1, 1, none⟩ (.string (mgI (s + y * xz)))) := ⟨hB9.mono (by omega), fun hc => (Below.heap_setCell _ ⟨w.heap.size + 1 + 1, 1, none⟩ _ (w.heap.size + 1 + 1 + 1 + 1) (by show w.heap.size + 1 + 1 + 1 + 1 ≠ w.heap.size + 1 + 1; omega)).trans ((Below.heap_setCell _ ⟨w.heap.size + 1 + 1, 0, none⟩ _ (w.heap.size + 1 + 1 + 1 + 1) (by show w.heap.size + 1 + 1 + 1 + 1 ≠ w.heap.size + 1 + 1; omega)).trans (hBw2.block _ hc))⟩
   have hI9 : InvP w a i (pre ++ [⟨(xj, xz), hx1, hx2⟩]) ((w2.setCell ⟨w.heap.size + 1 + 1, 0, none⟩ (.bool (ng (s + y * xz)))).setCell ⟨w.heap.size + 1 + 1, 1, none⟩ (.string (mgI (s + y * xz)))) := ⟨⟨(hSst.out _ _ _ hBw2).2.1, (h2.below hBw2 (by omega)).other (by omega) _ _, by rw [HSum.out]; exact m3.set_ _ _⟩, hB.trans (hB9.mono (by omega))⟩
   exact ⟨hKF, hKP, hI9⟩
  ·go_simp
   (with_reducible refine (HMul.out _).mono ?_)
   rintro e w1 ⟨rfl, hB1⟩
   have hBw : Below W.heap.size W w1 := hD.trans hB1
   have hS1 := hide (hSall.out _ hBw)
   have n3 := h3.below hBw HLT.out
   have k0 := n3.c0
   have k1 := n3.c1
   (try go_wp2_with fail)
   refine hK.out _ _ ?_ (fun hHeld => ?_)
   ·exact hS1.out
   clear hK K
   (try simp only [List.getElem_toArray, List.getElem_cons_zero, List.getElem_cons_succ, Act.put, List.setIfInBounds_toArray, List.set_cons_zero, List.set_cons_succ])
   refine wpAnyH_ready (rs := [0]) (by kernel_rfl) (by simp) ?_
   refine AllReadyH.cons (o := _) rfl (fun K hK => ?_) AllReadyH.nil
   go_simp
   refine hK.out _ _ ?_ (fun hHeld => ?_)
   ·exact hS1.out
   clear hK K
   (try simp only [List.getElem_toArray, List.getElem_cons_zero, List.getElem_cons_succ, Act.put, List.setIfInBounds_toArray, List.set_cons_zero, List.set_cons_succ])
   refine wpAnyH_ready (rs := [10]) (by kernel_rfl) (by simp) ?_
   refine AllReadyH.cons (o := _) rfl (fun K hK => ?_) AllReadyH.nil
   go_simp
   (with_reducible refine (HAdd.out _).mono ?_)
   rintro e w2 ⟨rfl, hB2⟩
   have hBw2 : Below W.heap.size W w2 := hBw.trans (hB2.mono hBw.size)
   have hS2 := hide (hSall.out _ hBw2)
   have m3 := h3.below hBw2 HLT.out
   have j0 := m3.c0
   have j1 := m3.c1
   have m0 := m3.z0
   have m1 := m3.z1
   (try go_wp2_with fail)
   refine hK.out _ _ ?_ (fun hHeld => ?_)
   ·exact hS2.out
   clear hK K
   (try simp only [List.getElem_toArray, List.getElem_cons_zero, List.getElem_cons_succ, Act.put, List.setIfInBounds_toArray, List.set_cons_zero, List.set_cons_succ])
   refine wpAnyH_ready (rs := [11]) (by kernel_rfl) (by simp) ?_
   refine AllReadyH.cons (o := _) rfl (fun K hK => ?_) AllReadyH.nil
   go_simp
   refine hK.out _ _ ?_ (fun hHeld => ?_)
   ·exact hSst.out _ _ _ hBw2
   clear hK K
   (try simp only [List.getElem_toArray, List.getElem_cons_zero, List.getElem_cons_succ, Act.put, List.setIfInBounds_toArray, List.set_cons_zero, List.set_cons_succ])
   refine wpAnyH_done (by kernel_rfl) ?_ _
   refine OnlyN.mk ?_
   have hB9 : Below (w.heap.size + 1 + 1) W ((w2.setCell ⟨w.heap.size + 1 + 1, 0, none⟩ (.bool (ng (s + y * xz)))).setCell ⟨w.heap.size + 1 + 1, 1, none⟩ (.string (mgI (s + y * xz)))) := Below.pair (hBw2.mono (by omega)) (Nat.le_refl _) _ _
   have hsz5 := HZ5.out
   have hKF : KeepsFrom W5.heap.size W ((w2.setCell ⟨w.heap.size + 1 + 1, 0, none⟩ (.bool (ng (s + y * xz)))).setCell ⟨w.heap.size + 1 + 1, 1, none⟩ (.string (mgI (s + y * xz)))) := ((keepsFrom_below hBw2 (Nat.le_refl _)).trans (keepsFrom_set ⟨w.heap.size + 1 + 1, 0, none⟩ _ (by show w.heap.size + 1 + 1 < _; omega))).trans (keepsFrom_set ⟨w.heap.size + 1 + 1, 1, none⟩ _ (by show w.heap.size + 1 + 1 < _; omega))
   have hKP : KpP w.heap.size (w.heap.size + 1 + 1 + 1 + 1) W ((w2.setCell ⟨w.heap.size + 1 + 1, 0, none⟩ (.bool (ng (s + y * xz)))).setCell ⟨w.heap.size + 1 + 1, 1, none⟩ (.string (mgI (s + y * xz)))) := ⟨hB9.mono (by omega), fun hc => (Below.heap_setCell _ ⟨w.heap.size + 1 + 1, 1, none⟩ _ (w.heap.size + 1 + 1 + 1 + 1) (by show w.heap.size + 1 + 1 + 1 + 1 ≠ w.heap.size + 1 + 1; omega)).trans ((Below.heap_setCell _ ⟨w.heap.size + 1 + 1, 0, none⟩ _ (w.heap.size + 1 + 1 + 1 + 1) (by show w.heap.size + 1 + 1 + 1 + 1 ≠ w.heap.size + 1 + 1; omega)).trans (hBw2.block _ hc))⟩
   have hI9 : InvP w a i (pre ++ [⟨(xj, xz), hx1, hx2⟩]) ((w2.setCell ⟨w.heap.size + 1 + 1, 0, none⟩ (.bool (ng (s + y * xz)))).setCell ⟨w.heap.size + 1 + 1, 1, none⟩ (.string (mgI (s + y * xz)))) := ⟨⟨(hSst.out _ _ _ hBw2).2.1, (h2.below hBw2 (by omega)).other (by omega) _ _, by rw [HSum.out]; exact m3.set_ _ _⟩, hB.trans (hB9.mono (by omega))⟩
   exact ⟨hKF, hKP, hI9⟩
 case done =>
  rintro D ys W hD rfl ⟨⟨h1, h2, h3⟩, hB⟩ hK
  rw [sumP_all] at h3
  have n0 := h3.c0
  have n1 := h3.c1
  have y0 := h2.c0
  have y1 := h2.c1
  have z0 := h2.z0
  have z1 := h2.z1
  have H2 := hide h2
  have HB := hide hB
  clear h1 h2 h3 hB
  gi_wp2
  refine ⟨by simp, .inl ⟨_, _, rfl, run_takeDeferred (w := (W.setCell ⟨w.heap.size + 1, 0, none⟩ (.bool (ng (dotV a b i k q)))).setCell ⟨w.heap.size + 1, 1, none⟩ (.string (mgI (dotV a b i k q)))) ?_, ?_⟩⟩
  ·refine (Below.heap_setCell _ ⟨w.heap.size + 1, 1, none⟩ _ D ?_).trans ((Below.heap_setCell _ ⟨w.heap.size + 1, 0, none⟩ _ D ?_).trans hK)
   ·show D ≠ w.heap.size + 1
    have := HZ5.out
    omega
   ·show D ≠ w.heap.size + 1
    have := HZ5.out
    omega
  ·have hD1 : w.heap.size + 1 ≠ D := by
    have := HZ5.out
    omega
   have hKf : ((W.setCell ⟨w.heap.size + 1, 0, none⟩ (.bool (ng (dotV a b i k q)))).setCell ⟨w.heap.size + 1, 1, none⟩ (.string (mgI (dotV a b i k q)))).heap[D]? = some (.deferred (some [])) :=
    (Below.heap_setCell _ ⟨w.heap.size + 1, 1, none⟩ _ D hD1.symm).trans ((Below.heap_setCell _ ⟨w.heap.size + 1, 0, none⟩ _ D hD1.symm).trans hK)
   exact ⟨_, ret_apiInt rfl _ _ (w.heap.size + 1) _ rfl ((World.putObj_heap_other hD1).trans (H2.out.set_ _ _)) rfl, rfl,
    (Below.pair HB.out (Nat.le_succ _) _ _).trans (belowK_b (w := w) (Nat.le_refl _) _ D _ _ (by have := HZ5.out; omega) hKf rfl rfl)⟩
 case stop =>
  rintro D c pre W _ _ h _
  exact h.elim
end
end Go.Proofs.YtbnpjoiojhnimaaGreatDoor
