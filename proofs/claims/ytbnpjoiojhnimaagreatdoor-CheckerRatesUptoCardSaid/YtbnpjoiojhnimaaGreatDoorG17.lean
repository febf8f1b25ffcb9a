import Derived.Test.YtbnpjoiojhnimaaGreatDoorG13
import Derived.Test.YtbnpjoiojhnimaaGreatDoorG16
import Derived.Deep.RegionHeld
import Derived.Test.YtbnpjoiojhnimaaGreatDoorG12
set_option linter.unusedSimpArgs false
set_option linter.unusedVariables false
/- eigenvector.sums at api.Int: its contract (printed by wip/mk_evs.py). -/
namespace Go.Proofs.YtbnpjoiojhnimaaGreatDoor
open Go.RowKit Go.Shelf
def sumsF (v : Nat → Int) (es : List Edg) : Nat → Int := es.foldl (fun acc e => fun s => if s = e.f.toNat then acc s + v e.t.toNat else acc s) (fun _ => 0)
theorem sumsVsnoc (v : Nat → Int) (es : List Edg) (e : Edg) : sumsF v (es ++ [e]) = fun s => if s = e.f.toNat then sumsF v es s + v e.t.toNat else sumsF v es s := by
 unfold sumsF; rw [List.foldl_append]; rfl
def inE (n : Nat) (e : Edg) : Prop := 0 ≤ e.f ∧ e.f < n ∧ 0 ≤ e.t ∧ e.t < n
theorem sumsVle {v : Nat → Int} {n U : Nat} (hv : ∀ k, k < n → (v k).natAbs ≤ U) (es : List Edg) (he : ∀ e ∈ es, inE n e) (s : Nat) : (sumsF v es s).natAbs ≤ es.length * U := by
 have key : ∀ (es : List Edg), (∀ e ∈ es, inE n e) → ∀ (acc : Nat → Int) (C : Nat), (∀ s, (acc s).natAbs ≤ C) → ∀ s, ((es.foldl (fun acc e => fun s => if s = e.f.toNat then acc s + v e.t.toNat else acc s) acc) s).natAbs ≤ C + es.length * U := by
  intro es
  induction es with
  | nil => intro _ acc C h s; have := h s; simp only [List.foldl_nil, List.length_nil, Nat.zero_mul]; omega
  | cons e t ih =>
   intro he acc C h s
   have h1 := ih (fun x hx => he x (List.mem_cons_of_mem _ hx)) (fun s => if s = e.f.toNat then acc s + v e.t.toNat else acc s) (C + U) (fun s => by
    have h2 := h s
    obtain ⟨_, _, h3, h4⟩ := he e List.mem_cons_self
    have h5 := hv e.t.toNat (by omega)
    have h6 := Int.natAbs_add_le (acc s) (v e.t.toNat)
    split <;> omega) s
   simp only [List.foldl_cons, List.length_cons, Nat.add_mul, Nat.one_mul]
   omega
 have := key es he (fun _ => 0) 0 (fun _ => by simp) s
 simpa [sumsF] using this
def VecR (w : World) (g o n : Nat) (v : Nat → Int) : Prop := g < w.heap.size ∧ ∀ k, k < n → w.cell? ⟨g, o + k * 2, none⟩ = some (.bool (ng (v k))) ∧ w.cell? ⟨g, o + k * 2 + 1, none⟩ = some (.string (mgI (v k)))
theorem VecR.below {w w' : World} {g o n : Nat} {v : Nat → Int} (h : VecR w g o n v) (hB : Below w.heap.size w w') : VecR w' g o n v :=
 ⟨Nat.lt_of_lt_of_le h.1 hB.size, fun k hk => ⟨(hB.cell (p := ⟨g, o + k * 2, none⟩) h.1).trans (h.2 k hk).1, (hB.cell (p := ⟨g, o + k * 2 + 1, none⟩) h.1).trans (h.2 k hk).2⟩⟩
set_option maxRecDepth 100000 in
set_option maxHeartbeats 4000000 in
theorem evSums_any (L : Int) (n : Nat) (es : List Edg) (A : Option Addr) (c g o cv : Nat) (v : Nat → Int) (U : Nat) (w : World) (hn : n ≤ 64) (hl : es.length ≤ 1024) (he : ∀ e ∈ es, inE n e) (hr : RowE w A es) (hv : VecR w g o n v) (hU : ∀ k, k < n → (v k).natAbs ≤ U) (hs : Sml (1025 * U)) :
  Calls Tryz.prog 76 #[.agg #[.int .i64 L, .int .i64 (n : Int), .slice A es.length c], .slice (some ⟨g, o, none⟩) n cv, .func (.func 24) #[] #[]] w fun e w' => ∃ G, e = .returned (.slice (some ⟨G, 0, none⟩) n n) ∧ w.heap.size ≤ G ∧ SRow w' G (rowL n (sumsF v es)) ∧ Below w.heap.size w w' := by
 have hn7 : n ≤ 70000 := by omega
 have hmk := fun W => run_make_ss n hn7 W
 have hB0 : Below w.heap.size w (w.alloc (.cells #[.int .i64 L, .int .i64 (n : Int), .slice A es.length c] 24)) := (Below.refl _ w).alloc (Nat.le_refl _) _
 have hs0 : (w.alloc (.cells #[.int .i64 L, .int .i64 (n : Int), .slice A es.length c] 24)).heap.size = w.heap.size + 1 := by simp
 obtain ⟨Z, hZ⟩ : ∃ Z, w.heap.size = Z := ⟨_, rfl⟩
 rw [hZ] at hB0 hs0
 obtain ⟨P, hP⟩ : ∃ P, P = Z + 1 := ⟨_, rfl⟩
 have HZ := hide hZ
 have HR := hide (fun W (hW : Below Z w W) => hr.below (hW.mono (Nat.le_of_eq hZ)))
 have HV := hide (fun W (hW : Below Z w W) => hv.below (hW.mono (Nat.le_of_eq hZ)))
 have hgZ : g < Z := by rw [← hZ]; exact hv.1
 have HE := hide he
 have HU := hide hU
 clear hr hv hZ he hU
 go_enter Tryz.func76, Tryz.ntmps76
 go_wp2
 try rw [HZ.out]
 have hW1 : SRow ((w.alloc (.cells #[.int .i64 L, .int .i64 (n : Int), .slice A es.length c] 24)).alloc (.cells (scells (List.replicate n 0)).toArray 55)) P (List.replicate n 0) := by
  have := SRow.new_ (w.alloc (.cells #[.int .i64 L, .int .i64 (n : Int), .slice A es.length c] 24)) (List.replicate n 0)
  rw [hs0, ← hP] at this
  exact this
 have hB1 : Below Z w ((w.alloc (.cells #[.int .i64 L, .int .i64 (n : Int), .slice A es.length c] 24)).alloc (.cells (scells (List.replicate n 0)).toArray 55)) := hB0.trans ((Below.refl _ _).alloc (by omega) _)
 rw [← hP]
 generalize (w.alloc (.cells #[.int .i64 L, .int .i64 (n : Int), .slice A es.length c] 24)).alloc (.cells (scells (List.replicate n 0)).toArray 55) = W1 at hW1 hB1 ⊢
 have hPZ : Z < P := by omega
 have HP := hide hP
 clear hB0 hs0 hP
 have HW1 := hide (show SRow W1 P (rowL n (sumsF v (es.take 0))) by rw [show sumsF v (es.take 0) = fun _ => 0 from rfl, rowL_zero]; exact hW1)
 clear hW1
 go_loopw [16] (fun iv wr => ∃ i : Nat, iv = .int .i64 i ∧ i ≤ es.length ∧ SRow wr P (rowL n (sumsF v (es.take i))) ∧ Below Z w wr) (fun iv _ => es.length - (intOf iv).toNat)
 case atStart => exact ⟨0, rfl, Nat.zero_le _, HW1.out, hB1⟩
 case round =>
  obtain ⟨i, rfl, hi, hS, hB⟩ := hrel
  clear hB1 HW1
  by_cases hlt : i < es.length
  ·obtain ⟨b, oe, rfl, hbl, hcell⟩ := HR.out wr hB (by omega)
   obtain ⟨a0, a1, a2⟩ := hcell i hlt
   have hi0 : (0 : Int) ≤ (i : Int) := by omega
   have hi1 : (i : Int) < (es.length : Int) := by omega
   obtain ⟨e0, e1, e2, e3⟩ := HE.out es[i] (List.getElem_mem hlt)
   have HTk := hide (List.take_succ_eq_append_getElem hlt)
   have hsb := sumsVle HU.out (es.take i) (fun x hx => HE.out x (List.mem_of_mem_take hx))
   obtain ⟨e, hee⟩ : ∃ e, es[i] = e := ⟨_, rfl⟩
   rw [hee] at a0 a1 a2 e0 e1 e2 e3 HTk
   obtain ⟨f, hf⟩ : ∃ f : Nat, e.f = (f : Int) := ⟨e.f.toNat, by omega⟩
   obtain ⟨t, ht⟩ : ∃ t : Nat, e.t = (t : Int) := ⟨e.t.toNat, by omega⟩
   obtain ⟨l, hel⟩ : ∃ l, e.l = l := ⟨_, rfl⟩
   have hfn : f < n := by omega
   have htn : t < n := by omega
   have hft : e.f.toNat = f := by omega
   have htt : e.t.toNat = t := by omega
   rw [hf] at a0
   rw [hel] at a1
   rw [ht] at a2
   have hU1 := HU.out t htn
   obtain ⟨v0, v1⟩ := (HV.out wr hB).2 t htn
   have hgl := (HV.out wr hB).1
   have hsi := hsb f
   rw [List.length_take, Nat.min_eq_left hi] at hsi
   have hiu : i * U ≤ 1024 * U := Nat.mul_le_mul_right _ (by omega)
   obtain ⟨x, hx⟩ : ∃ x, sumsF v (es.take i) f = x := ⟨_, rfl⟩
   obtain ⟨y, hy⟩ : ∃ y, v t = y := ⟨_, rfl⟩
   rw [hx] at hsi
   rw [hy] at v0 v1 hU1
   have HAdd := hide (fun W => iAdd_g x y W (hs.le (by omega)) (hs.le (by omega)))
   have HNx := hide (show sumsF v (es.take (i + 1)) = fun s => if s = f then x + y else sumsF v (es.take i) s by
    rw [HTk.out, sumsVsnoc, hft, htt, hy]
    funext s
    split
    ·rename_i h; subst h; rw [hx]
    ·rfl)
   have hfl : f < (rowL n (sumsF v (es.take i))).length := by rw [rowL_len]; exact hfn
   have p0 := hS.c0 hfl
   have p1 := hS.c1 hfl
   rw [rowL_get hfn, hx] at p0 p1
   have hA : Below wr.heap.size wr (wr.alloc (.cells #[.int .i64 (f : Int), .int .i64 l, .int .i64 (t : Int)] 72)) := (Below.refl _ wr).alloc (Nat.le_refl _) _
   have hx_ := heap_alloc_new wr (.cells #[.int .i64 (f : Int), .int .i64 l, .int .i64 (t : Int)] 72)
   have hPx0 := hS.belowS hA
   have hBx := hB.trans (hA.mono (show Z ≤ wr.heap.size by have := hS.lt; omega))
   have q0 := (hA.cell (p := ⟨P, f * 2, none⟩) hS.lt).trans p0
   have q1 := (hA.cell (p := ⟨P, f * 2 + 1, none⟩) hS.lt).trans p1
   have w0 := (hA.cell (p := ⟨g, o + t * 2, none⟩) hgl).trans v0
   have w1 := (hA.cell (p := ⟨g, o + t * 2 + 1, none⟩) hgl).trans v1
   have hPl := hS.lt
   have hxs : (wr.alloc (.cells #[.int .i64 (f : Int), .int .i64 l, .int .i64 (t : Int)] 72)).heap.size = wr.heap.size + 1 := by simp
   have i0 : (0 : Int) ≤ (f : Int) := by omega
   have i1 : (f : Int) < (n : Int) := by omega
   have j0' : (0 : Int) ≤ (t : Int) := by omega
   have j1' : (t : Int) < (n : Int) := by omega
   clear hee hf ht hel hft htt hx hy hsb hsi hiu hU1 v0 v1 p0 p1 e0 e1 e2 e3 hcell hB hS hA
   go_wp2_with fail
   obtain ⟨X, hXX⟩ : ∃ X, wr.heap.size = X := ⟨_, rfl⟩
   rw [hXX] at hx_ hPl hxs hgl ⊢
   have x0 : (wr.alloc (.cells #[.int .i64 (f : Int), .int .i64 l, .int .i64 (t : Int)] 72)).cell? ⟨X, 0, none⟩ = some (.int .i64 (f : Int)) := by rw [cell_of_row _ _ 0 _ 72 (0, 0) hx_]; rfl
   have x2 : (wr.alloc (.cells #[.int .i64 (f : Int), .int .i64 l, .int .i64 (t : Int)] 72)).cell? ⟨X, 2, none⟩ = some (.int .i64 (t : Int)) := by rw [cell_of_row _ _ 2 _ 72 (0, 0) hx_]; rfl
   generalize wr.alloc (.cells #[.int .i64 (f : Int), .int .i64 l, .int .i64 (t : Int)] 72) = Wx at hx_ hPx0 hBx q0 q1 w0 w1 hxs x0 x2 ⊢
   have hPx : SRow Wx P (rowL n (sumsF v (es.take i))) := hPx0
   have hgP : g ≠ P := by omega
   have hSb := hide (show ∀ W1 : World, (∀ b, b ≠ P → b < Wx.heap.size → W1.heap[b]? = Wx.heap[b]?) → (fun W' : World => W'.cell? ⟨X, 0, none⟩ = some (.int .i64 (f : Int)) ∧ W'.cell? ⟨X, 2, none⟩ = some (.int .i64 (t : Int)) ∧ W'.cell? ⟨g, o + t * 2, none⟩ = some (.bool (ng y)) ∧ W'.cell? ⟨g, o + t * 2 + 1, none⟩ = some (.string (mgI y))) W1 from fun W1 hW1 => ⟨(World.cell?_of_block (hW1 X (by omega) (by omega))).trans x0, (World.cell?_of_block (hW1 X (by omega) (by omega))).trans x2, (World.cell?_of_block (hW1 g hgP (by omega))).trans w0, (World.cell?_of_block (hW1 g hgP (by omega))).trans w1⟩)
   have q0d : Wx.drew.cell? ⟨P, f * 2, none⟩ = some (.bool (ng x)) := q0
   have q1d : Wx.drew.cell? ⟨P, f * 2 + 1, none⟩ = some (.string (mgI x)) := q1
   clear hx_ hPx0 w0 w1 x0 x2 hXX q0 q1
   refine wp_region_noPanic ?_
   refine wp_region_held_drew (S := fun W' => W'.cell? ⟨X, 0, none⟩ = some (.int .i64 (f : Int)) ∧ W'.cell? ⟨X, 2, none⟩ = some (.int .i64 (t : Int)) ∧ W'.cell? ⟨g, o + t * 2, none⟩ = some (.bool (ng y)) ∧ W'.cell? ⟨g, o + t * 2 + 1, none⟩ = some (.string (mgI y))) (by kernel_rfl) (hSb.out _ fun b _ hb => rfl) (fun hHeld => ?_)
   refine wpAnyH_take (i := 0) (oi := _) (v := ?v0) rfl (by kernel_rfl) (by kernel_rfl) (by kernel_rfl) (fun _ _ _ h => h) (Or.inl ⟨by rfl, ?hy0⟩) (by assumption) ?rest0
   case hy0 => (intro w hSw; (try dsimp only at hSw); go_simp; (try with_reducible rfl))
   (try simp only [List.getElem_toArray, List.getElem_cons_zero, Act.put, List.setIfInBounds_toArray, List.set_cons_zero, List.set_cons_succ])
   refine wpAnyH_take (i := 1) (oi := _) (v := ?v1) rfl (by kernel_rfl) (by kernel_rfl) (by kernel_rfl) (fun _ _ _ h => h) (Or.inl ⟨by rfl, ?hy1⟩) (by assumption) ?rest1
   case hy1 => (intro w hSw; (try dsimp only at hSw); go_simp; (try with_reducible rfl))
   (try simp only [List.getElem_toArray, List.getElem_cons_zero, List.getElem_cons_succ, Act.put, List.setIfInBounds_toArray, List.set_cons_zero, List.set_cons_succ])
   refine wpAnyH_take (i := 2) (oi := _) (v := ?v2) rfl (by kernel_rfl) (by kernel_rfl) (by kernel_rfl) (fun _ _ _ h => h) (Or.inl ⟨by rfl, ?hy2⟩) (by assumption) ?rest2
   case hy2 => (intro w hSw; (try dsimp only at hSw); go_simp; (try with_reducible rfl))
   (try simp only [List.getElem_toArray, List.getElem_cons_zero, List.getElem_cons_succ, Act.put, List.setIfInBounds_toArray, List.set_cons_zero, List.set_cons_succ])
   refine wpAnyH_take (i := 3) (oi := _) (v := ?v3) rfl (by kernel_rfl) (by kernel_rfl) (by kernel_rfl) (fun _ _ _ h => h) (Or.inl ⟨by rfl, ?hy3⟩) (by assumption) ?rest3
   case hy3 => (intro w hSw; (try dsimp only at hSw); go_simp; (try with_reducible rfl))
   (try simp only [List.getElem_toArray, List.getElem_cons_zero, List.getElem_cons_succ, Act.put, List.setIfInBounds_toArray, List.set_cons_zero, List.set_cons_succ])
   refine wpAnyH_take (i := 4) (oi := _) (v := ?v4) rfl (by kernel_rfl) (by kernel_rfl) (by kernel_rfl) (fun _ _ _ h => h) (Or.inl ⟨by rfl, ?hy4⟩) (by assumption) ?rest4
   case hy4 => (intro w hSw; (try dsimp only at hSw); go_simp; (try with_reducible rfl))
   (try simp only [List.getElem_toArray, List.getElem_cons_zero, List.getElem_cons_succ, Act.put, List.setIfInBounds_toArray, List.set_cons_zero, List.set_cons_succ])
   refine wpAnyH_take (i := 5) (oi := _) (v := ?v5) rfl (by kernel_rfl) (by kernel_rfl) (by kernel_rfl) (fun _ _ _ h => h) (Or.inl ⟨by rfl, ?hy5⟩) (by assumption) ?rest5
   case hy5 => (intro w hSw; (try dsimp only at hSw); go_simp; (try with_reducible rfl))
   (try simp only [List.getElem_toArray, List.getElem_cons_zero, List.getElem_cons_succ, Act.put, List.setIfInBounds_toArray, List.set_cons_zero, List.set_cons_succ])
   refine wpAnyH_take (i := 6) (oi := _) (v := ?v6) rfl (by kernel_rfl) (by kernel_rfl) (by kernel_rfl) (fun _ _ _ h => h) (Or.inl ⟨by rfl, ?hy6⟩) (by assumption) ?rest6
   case hy6 => (intro w hSw; (try dsimp only at hSw); go_simp; (try with_reducible rfl))
   (try simp only [List.getElem_toArray, List.getElem_cons_zero, List.getElem_cons_succ, Act.put, List.setIfInBounds_toArray, List.set_cons_zero, List.set_cons_succ])
   refine wpAnyH_take (i := 7) (oi := _) (v := ?v7) rfl (by kernel_rfl) (by kernel_rfl) (by kernel_rfl) (fun _ _ _ h => h) (Or.inl ⟨by rfl, ?hy7⟩) (by assumption) ?rest7
   case hy7 => (intro w hSw; (try dsimp only at hSw); go_simp; (try with_reducible rfl))
   (try simp only [List.getElem_toArray, List.getElem_cons_zero, List.getElem_cons_succ, Act.put, List.setIfInBounds_toArray, List.set_cons_zero, List.set_cons_succ])
   refine wpAnyH_take (i := 9) (oi := _) (v := ?v9) rfl (by kernel_rfl) (by kernel_rfl) (by kernel_rfl) (fun _ _ _ h => h) (Or.inl ⟨by rfl, ?hy9⟩) (by assumption) ?rest9
   case hy9 => (intro w hSw; (try dsimp only at hSw); go_simp; (try with_reducible rfl))
   (try simp only [List.getElem_toArray, List.getElem_cons_zero, List.getElem_cons_succ, Act.put, List.setIfInBounds_toArray, List.set_cons_zero, List.set_cons_succ])
   refine wpAnyH_take (i := 10) (oi := _) (v := ?v10) rfl (by kernel_rfl) (by kernel_rfl) (by kernel_rfl) (fun _ _ _ h => h) (Or.inl ⟨by rfl, ?hy10⟩) (by assumption) ?rest10
   case hy10 => (intro w hSw; (try dsimp only at hSw); go_simp; (try with_reducible rfl))
   (try simp only [List.getElem_toArray, List.getElem_cons_zero, List.getElem_cons_succ, Act.put, List.setIfInBounds_toArray, List.set_cons_zero, List.set_cons_succ])
   refine wpAnyH_take (i := 11) (oi := _) (v := ?v11) rfl (by kernel_rfl) (by kernel_rfl) (by kernel_rfl) (fun _ _ _ h => h) (Or.inl ⟨by rfl, ?hy11⟩) (by assumption) ?rest11
   case hy11 => (intro w hSw; (try dsimp only at hSw); go_simp; (try with_reducible rfl))
   (try simp only [List.getElem_toArray, List.getElem_cons_zero, List.getElem_cons_succ, Act.put, List.setIfInBounds_toArray, List.set_cons_zero, List.set_cons_succ])
   refine wpAnyH_take (i := 12) (oi := _) (v := ?v12) rfl (by kernel_rfl) (by kernel_rfl) (by kernel_rfl) (fun _ _ _ h => h) (Or.inl ⟨by rfl, ?hy12⟩) (by assumption) ?rest12
   case hy12 => (intro w hSw; (try dsimp only at hSw); go_simp; (try with_reducible rfl))
   (try simp only [List.getElem_toArray, List.getElem_cons_zero, List.getElem_cons_succ, Act.put, List.setIfInBounds_toArray, List.set_cons_zero, List.set_cons_succ])
   refine wpAnyH_take (i := 13) (oi := _) (v := ?v13) rfl (by kernel_rfl) (by kernel_rfl) (by kernel_rfl) (fun _ _ _ h => h) (Or.inl ⟨by rfl, ?hy13⟩) (by assumption) ?rest13
   case hy13 => (intro w hSw; (try dsimp only at hSw); go_simp; (try with_reducible rfl))
   (try simp only [List.getElem_toArray, List.getElem_cons_zero, List.getElem_cons_succ, Act.put, List.setIfInBounds_toArray, List.set_cons_zero, List.set_cons_succ])
   refine wpAnyH_ready (rs := [8]) (by kernel_rfl) (by simp) ?_
   refine AllReadyH.cons (o := _) rfl (fun K hK => ?_) AllReadyH.nil
   go_simp
   refine hK.out _ _ ?_ (fun hHeld => ?_)
   ·exact hHeld
   clear hK K
   (try simp only [List.getElem_toArray, List.getElem_cons_zero, List.getElem_cons_succ, Act.put, List.setIfInBounds_toArray, List.set_cons_zero, List.set_cons_succ])
   refine wpAnyH_ready (rs := [14]) (by kernel_rfl) (by simp) ?_
   refine AllReadyH.cons (o := _) rfl (fun K hK => ?_) AllReadyH.nil
   go_simp
   (with_reducible refine (HAdd.out _).mono ?_)
   rintro en w2 ⟨rfl, hB2⟩
   have hS2 := hide (hSb.out w2 fun b _ hb => hB2.block b hb)
   have hP2 := SRow.belowS (w := Wx.drew) hPx hB2
   have j0 := hP2.c0 hfl
   have j1 := hP2.c1 hfl
   have m0 := hP2.free_ (f * 2)
   have m1 := hP2.free_ (f * 2 + 1)
   (try go_wp2_with fail)
   refine hK.out _ _ ?_ (fun hHeld => ?_)
   ·exact hS2.out
   clear hK K
   (try simp only [List.getElem_toArray, List.getElem_cons_zero, List.getElem_cons_succ, Act.put, List.setIfInBounds_toArray, List.set_cons_zero, List.set_cons_succ])
   refine wpAnyH_take (i := 15) (oi := _) (v := ?v15) rfl (by kernel_rfl) (by kernel_rfl) (by kernel_rfl) (fun _ _ _ h => h) (Or.inl ⟨by rfl, ?hy15⟩) (by assumption) ?rest15
   case hy15 => (intro w hSw; (try dsimp only at hSw); go_simp; (try with_reducible rfl))
   (try simp only [List.getElem_toArray, List.getElem_cons_zero, List.getElem_cons_succ, Act.put, List.setIfInBounds_toArray, List.set_cons_zero, List.set_cons_succ])
   refine wpAnyH_ready (rs := [16]) (by kernel_rfl) (by simp) ?_
   refine AllReadyH.cons (o := _) rfl (fun K hK => ?_) AllReadyH.nil
   go_simp
   refine hK.out _ _ ?_ (fun hHeld => ?_)
   ·exact hSb.out _ fun b hne hb => (Below.heap_setCell _ ⟨P, f * 2 + 1, none⟩ _ b hne).trans ((Below.heap_setCell _ ⟨P, f * 2, none⟩ _ b hne).trans (hB2.block b hb))
   clear hK K
   (try simp only [List.getElem_toArray, List.getElem_cons_zero, List.getElem_cons_succ, Act.put, List.setIfInBounds_toArray, List.set_cons_zero, List.set_cons_succ])
   refine wpAnyH_done (by kernel_rfl) ?_ _
   refine NoPanic.normal ?_
   have hS9 := hP2.set_ hfl (x + y)
   have hB9 : Below Z w ((w2.setCell ⟨P, f * 2, none⟩ (.bool (ng (x + y)))).setCell ⟨P, f * 2 + 1, none⟩ (.string (mgI (x + y)))) := Below.pairG (hBx.trans ((Below.refl Z Wx).drew.trans (hB2.mono (show Z ≤ Wx.heap.size by omega)))) (by omega) _ _ _ _
   have HS9 := hide (show SRow ((w2.setCell ⟨P, f * 2, none⟩ (.bool (ng (x + y)))).setCell ⟨P, f * 2 + 1, none⟩ (.string (mgI (x + y)))) P (rowL n (sumsF v (es.take (i + 1)))) by
    rw [HNx.out, ← rowL_set (n := n) (f := sumsF v (es.take i)) (k := f) (v := x + y) (g := fun s => if s = f then x + y else sumsF v (es.take i) s) (if_pos rfl) (fun j _ hne => by simp only [if_neg hne])]
    exact hS9)
   have HB9 := hide hB9
   clear hS9 hB9 hB2 hP2 j0 j1 m0 m1 q0d q1d hSb hPx hBx
   go_wp2
   go_roundw
   case rel => exact ⟨i + 1, by go_num, hlt, HS9.out, HB9.out⟩
   case measure => simp [intOf]; omega
  ·obtain rfl : i = es.length := by omega
   rw [List.take_length] at hS
   have HS := hide hS
   have HB := hide hB
   clear hS hB
   go_wp2
   go_ret
   exact ⟨P, rfl, by rw [HZ.out]; omega, HS.out, by rw [HZ.out]; exact HB.out⟩
theorem iCompare_z (x : Int) (w : World) (hbX : Sml x.natAbs) : Calls Tryz.prog 77 #[.agg #[.bool (ng x), .string (mgI x)], .agg #[.bool false, .string ⟨#[]⟩]] w fun e w' => e = .returned (.int .i64 (cmpI x 0)) ∧ Below w.heap.size w w' := by
 have h := iCompare_g x 0 w hbX (Sml.of64 (by decide))
 rw [mgI_zero, show ng 0 = false from by decide] at h
 exact h
def refAt (m : Int) (v s : Nat → Int) (i : Nat) : Bool := decide (0 < v i) && decide (s i < m * v i)
def refB (n : Nat) (es : List Edg) (m : Int) (v : Nat → Int) : Bool := (List.range n).all (refAt m v (sumsF v es))
set_option maxRecDepth 100000 in
set_option maxHeartbeats 4000000 in
theorem evRefusal_any (L : Int) (n m : Nat) (es : List Edg) (A : Option Addr) (c g o cv : Nat) (v : Nat → Int) (U : Nat) (w : World) (hn : n ≤ 64) (hm : m ≤ 256) (hl : es.length ≤ 1024) (he : ∀ e ∈ es, inE n e) (hr : RowE w A es) (hv : VecR w g o n v) (hU : ∀ k, k < n → (v k).natAbs ≤ U) (hs : Sml (1025 * U)) :
  Calls Tryz.prog 25 #[.agg #[.int .i64 L, .int .i64 (n : Int), .slice A es.length c], .int .i64 (m : Int), .slice (some ⟨g, o, none⟩) n cv] w fun e w' => e = .returned (.bool (refB n es m v)) ∧ Below w.heap.size w w' := by
 have hB0 : Below w.heap.size w (w.alloc (.cells #[.int .i64 L, .int .i64 (n : Int), .slice A es.length c] 24)) := (Below.refl _ w).alloc (Nat.le_refl _) _
 have HS := hide (evSums_any L n es A c g o cv v U (w.alloc (.cells #[.int .i64 L, .int .i64 (n : Int), .slice A es.length c] 24)) hn hl he (hr.below hB0) (hv.below hB0) hU hs)
 have HV := hide (fun W (hW : Below w.heap.size w W) => hv.below hW)
 have HU := hide hU
 have HSb := hide (sumsVle hU es he)
 have hel : es.length * U ≤ 1024 * U := Nat.mul_le_mul_right _ hl
 clear hr hv hU he
 go_enter Tryz.func25, Tryz.ntmps25
 go_wp2_with fail
 generalize w.alloc (.cells #[.int .i64 L, .int .i64 (n : Int), .slice A es.length c] 24) = W0 at hB0 HS ⊢
 (with_reducible refine HS.out.mono ?_)
 rintro e w1 ⟨G, rfl, hG, hRow, hB1⟩
 have HB1 := hide (hB0.trans (hB1.mono hB0.size))
 have hGw : w.heap.size ≤ G := Nat.le_trans hB0.size hG
 have HRow := hide hRow
 have HGl := hide hRow.lt
 clear hB0 HS hB1 hRow hG
 go_wp2
 go_loopw [13] (fun iv wr => ∃ i : Nat, iv = .int .i64 i ∧ i ≤ n ∧ Hid (∀ j, j < i → refAt m v (sumsF v es) j = true) ∧ Below w1.heap.size w1 wr) (fun iv _ => n - (intOf iv).toNat)
 case atStart => exact ⟨0, rfl, Nat.zero_le _, hide fun j h => absurd h (by omega), Below.refl _ _⟩
 case round =>
  obtain ⟨i, rfl, hi, hJ, hB⟩ := hrel
  have hBw : Below w.heap.size w wr := HB1.out.trans (hB.mono HB1.out.size)
  by_cases hlt : i < n
  ·have hi0 : (0 : Int) ≤ (i : Int) := by omega
   have hi1 : (i : Int) < (n : Int) := by omega
   have hRw := HRow.out.below hB HGl.out
   have r0 := hRw.c0 (k := i) (by rw [rowL_len]; exact hlt)
   have r1 := hRw.c1 (k := i) (by rw [rowL_len]; exact hlt)
   rw [rowL_get hlt] at r0 r1
   obtain ⟨hgl, hvc⟩ := HV.out wr hBw
   obtain ⟨v0, v1⟩ := hvc i hlt
   have hyb := HU.out i hlt
   have hxb := HSb.out i
   have HAt := hide (show refAt m v (sumsF v es) i = (decide (0 < v i) && decide (sumsF v es i < m * v i)) from rfl)
   obtain ⟨x, hx⟩ : ∃ x, sumsF v es i = x := ⟨_, rfl⟩
   obtain ⟨y, hy⟩ : ∃ y, v i = y := ⟨_, rfl⟩
   rw [hx] at r0 r1 hxb HAt
   rw [hy] at v0 v1 hyb HAt
   have hmy : ((m : Int) * y).natAbs ≤ 256 * U := by
    rw [Int.natAbs_mul, Int.natAbs_natCast]
    exact Nat.mul_le_mul hm hyb
   have HC1 := hide (fun W => iCompare_z y W (hs.le (by omega)))
   have HOf := hide (fun W => iOf_g m (by omega) W)
   have HMul := hide (fun W => iMul_g (m : Int) y W (Sml.of64 (by omega)) (hs.le (by omega)))
   have HC2 := hide (fun W => iCompare_g x ((m : Int) * y) W (hs.le (by omega)) (hs.le (by omega)))
   have HFalse := hide (fun (h : refAt m v (sumsF v es) i = false) => show refB n es m v = false by
    unfold refB
    rw [List.all_eq_false]
    exact ⟨i, List.mem_range.2 hlt, by rw [h]; simp⟩)
   obtain ⟨z1, hz1⟩ : ∃ z, cmpI y 0 = z := ⟨_, rfl⟩
   obtain ⟨z2, hz2⟩ : ∃ z, cmpI x ((m : Int) * y) = z := ⟨_, rfl⟩
   rw [hz1] at HC1
   rw [hz2] at HC2
   have HZ1 := hide (show (0 < y → decide (z1 ≤ 0) = false) ∧ (y ≤ 0 → decide (z1 ≤ 0) = true) by rw [← hz1]; unfold cmpI; refine ⟨fun h => decide_eq_false ?_, fun h => decide_eq_true ?_⟩ <;> (repeat' split) <;> omega)
   have HZ2 := hide (show (x < (m : Int) * y → decide (0 ≤ z2) = false) ∧ ((m : Int) * y ≤ x → decide (0 ≤ z2) = true) by rw [← hz2]; unfold cmpI; refine ⟨fun h => decide_eq_false ?_, fun h => decide_eq_true ?_⟩ <;> (repeat' split) <;> omega)
   have hA : Below wr.heap.size wr (wr.alloc (.cells #[.bool (ng x), .string (mgI x)] 55)) := (Below.refl _ wr).alloc (Nat.le_refl _) _
   have hBA := hB.trans (hA.mono hB.size)
   have hBAw := hBw.trans (hA.mono hBw.size)
   have hxi := ResI.new_ wr (ng x) (mgI x)
   have u0 := (hA.cell (p := ⟨g, o + i * 2, none⟩) hgl).trans v0
   have u1 := (hA.cell (p := ⟨g, o + i * 2 + 1, none⟩) hgl).trans v1
   have hglx : g < (wr.alloc (.cells #[.bool (ng x), .string (mgI x)] 55)).heap.size := Nat.lt_of_lt_of_le hgl hA.size
   clear hx hy hz1 hz2 hyb hxb hmy v0 v1 hvc hgl hB hBw hRw hA
   go_wp2_with fail
   obtain ⟨X, hXX⟩ : ∃ X, wr.heap.size = X := ⟨_, rfl⟩
   rw [hXX] at hxi ⊢
   generalize wr.alloc (.cells #[.bool (ng x), .string (mgI x)] 55) = Wx at hBA hBAw hxi u0 u1 hglx ⊢
   have hXl := (Array.getElem?_eq_some_iff.1 hxi).1
   have x0 := hxi.c0
   have x1 := hxi.c1
   have hD : Below Wx.heap.size Wx Wx.drew := (Below.refl _ _).drew
   have hSA := hide (show ∀ W1, Below Wx.heap.size Wx W1 → (fun W' : World => W'.cell? ⟨g, o + i * 2, none⟩ = some (.bool (ng y)) ∧ W'.cell? ⟨g, o + i * 2 + 1, none⟩ = some (.string (mgI y))) W1 from fun W1 hW1 => ⟨(hW1.cell (p := ⟨g, o + i * 2, none⟩) hglx).trans u0, (hW1.cell (p := ⟨g, o + i * 2 + 1, none⟩) hglx).trans u1⟩)
   have hSB := hide (show ∀ W1, Below Wx.heap.size Wx W1 → (fun W' : World => W'.cell? ⟨g, o + i * 2, none⟩ = some (.bool (ng y)) ∧ W'.cell? ⟨g, o + i * 2 + 1, none⟩ = some (.string (mgI y)) ∧ W'.cell? ⟨X, 0, none⟩ = some (.bool (ng x)) ∧ W'.cell? ⟨X, 1, none⟩ = some (.string (mgI x))) W1 from fun W1 hW1 => ⟨(hW1.cell (p := ⟨g, o + i * 2, none⟩) hglx).trans u0, (hW1.cell (p := ⟨g, o + i * 2 + 1, none⟩) hglx).trans u1, (hW1.cell (p := ⟨X, 0, none⟩) hXl).trans x0, (hW1.cell (p := ⟨X, 1, none⟩) hXl).trans x1⟩)
   have HBA := hide hBA
   have HBAw := hide hBAw
   clear hxi x0 x1 u0 u1 hXX r0 r1 hXl hglx hBA hBAw
   by_cases hy0 : 0 < y
   ·have hd1 : decide (z1 ≤ 0) = false := HZ1.out.1 hy0
    have HY := hide hy0
    by_cases hxy : x < (m : Int) * y
    ·have hd2 : decide (0 ≤ z2) = false := HZ2.out.1 hxy
     have HNext := hide (show ∀ j, j < i + 1 → refAt m v (sumsF v es) j = true from fun j hj => by
      rcases Nat.lt_or_ge j i with h | h
      ·exact hJ.out j h
      ·obtain rfl : j = i := by omega
       rw [HAt.out, decide_eq_true hy0, decide_eq_true hxy]; rfl)
     have hAcc := hD
     clear hy0 hxy hJ hSA
     go_region_held3 (fun W' => W'.cell? ⟨g, o + i * 2, none⟩ = some (.bool (ng y)) ∧ W'.cell? ⟨g, o + i * 2 + 1, none⟩ = some (.string (mgI y)) ∧ W'.cell? ⟨X, 0, none⟩ = some (.bool (ng x)) ∧ W'.cell? ⟨X, 1, none⟩ = some (.string (mgI x)))
      (with_reducible exact hSB.out _ hAcc)
      (first
       | (go_at_call_of 77 y; (with_reducible refine (HC1.out _).mono ?_); rintro en w2 ⟨rfl, hB2⟩; replace hAcc := hAcc.trans (hB2.mono hAcc.size))
       | (go_at_call 18; (with_reducible refine (HOf.out _).mono ?_); rintro en w3 ⟨rfl, hB3⟩; replace hAcc := hAcc.trans (hB3.mono hAcc.size))
       | (go_at_call 78; (with_reducible refine (HMul.out _).mono ?_); rintro en w4 ⟨rfl, hB4⟩; replace hAcc := hAcc.trans (hB4.mono hAcc.size))
       | (go_at_call_of 77 x; (with_reducible refine (HC2.out _).mono ?_); rintro en w5 ⟨rfl, hB5⟩; replace hAcc := hAcc.trans (hB5.mono hAcc.size)))
     all_goals (
      have HB9 := hide (HBA.out.trans (hAcc.mono HBA.out.size))
      clear hAcc hD
      go_wp2
      go_roundw
      case rel => exact ⟨i + 1, by go_num, hlt, HNext, HB9.out⟩
      case measure => simp [intOf]; omega)
    ·have hd2 : decide (0 ≤ z2) = true := HZ2.out.2 (Int.not_lt.1 hxy)
     have HF := hide (HFalse.out (by rw [HAt.out, decide_eq_false hxy, Bool.and_false]))
     have hAcc := hD
     clear hy0 hxy hJ hSA
     go_region_held3 (fun W' => W'.cell? ⟨g, o + i * 2, none⟩ = some (.bool (ng y)) ∧ W'.cell? ⟨g, o + i * 2 + 1, none⟩ = some (.string (mgI y)) ∧ W'.cell? ⟨X, 0, none⟩ = some (.bool (ng x)) ∧ W'.cell? ⟨X, 1, none⟩ = some (.string (mgI x)))
      (with_reducible exact hSB.out _ hAcc)
      (first
       | (go_at_call_of 77 y; (with_reducible refine (HC1.out _).mono ?_); rintro en w2 ⟨rfl, hB2⟩; replace hAcc := hAcc.trans (hB2.mono hAcc.size))
       | (go_at_call 18; (with_reducible refine (HOf.out _).mono ?_); rintro en w3 ⟨rfl, hB3⟩; replace hAcc := hAcc.trans (hB3.mono hAcc.size))
       | (go_at_call 78; (with_reducible refine (HMul.out _).mono ?_); rintro en w4 ⟨rfl, hB4⟩; replace hAcc := hAcc.trans (hB4.mono hAcc.size))
       | (go_at_call_of 77 x; (with_reducible refine (HC2.out _).mono ?_); rintro en w5 ⟨rfl, hB5⟩; replace hAcc := hAcc.trans (hB5.mono hAcc.size)))
     all_goals (
      have HB9 := hide (HBAw.out.trans (hAcc.mono HBAw.out.size))
      clear hAcc hD
      go_wp2
      go_ret
      exact ⟨by rw [HF.out]; rfl, HB9.out⟩)
   ·have hd1 : decide (z1 ≤ 0) = true := HZ1.out.2 (Int.not_lt.1 hy0)
    have HF := hide (HFalse.out (by rw [HAt.out, decide_eq_false hy0, Bool.false_and]))
    clear hy0 hJ hSB
    refine wp_region_noPanic ?_
    refine wp_region_held_drew (S := fun W' => W'.cell? ⟨g, o + i * 2, none⟩ = some (.bool (ng y)) ∧ W'.cell? ⟨g, o + i * 2 + 1, none⟩ = some (.string (mgI y))) (by kernel_rfl) (hSA.out _ hD) (fun hHeld => ?_)
    refine wpAnyH_take (i := 0) (oi := _) (v := ?v0) rfl (by kernel_rfl) (by kernel_rfl) (by kernel_rfl) (fun _ _ _ h => h) (Or.inl ⟨by rfl, ?hy0⟩) (by assumption) ?rest0
    case hy0 => (intro w hSw; (try dsimp only at hSw); go_simp; (try with_reducible rfl))
    (try simp only [List.getElem_toArray, List.getElem_cons_zero, Act.put, List.setIfInBounds_toArray, List.set_cons_zero, List.set_cons_succ])
    refine wpAnyH_take (i := 1) (oi := _) (v := ?v1) rfl (by kernel_rfl) (by kernel_rfl) (by kernel_rfl) (fun _ _ _ h => h) (Or.inl ⟨by rfl, ?hy1⟩) (by assumption) ?rest1
    case hy1 => (intro w hSw; (try dsimp only at hSw); go_simp; (try with_reducible rfl))
    (try simp only [List.getElem_toArray, List.getElem_cons_zero, List.getElem_cons_succ, Act.put, List.setIfInBounds_toArray, List.set_cons_zero, List.set_cons_succ])
    refine wpAnyH_take (i := 2) (oi := _) (v := ?v2) rfl (by kernel_rfl) (by kernel_rfl) (by kernel_rfl) (fun _ _ _ h => h) (Or.inl ⟨by rfl, ?hy2⟩) (by assumption) ?rest2
    case hy2 => (intro w hSw; (try dsimp only at hSw); go_simp; (try with_reducible rfl))
    (try simp only [List.getElem_toArray, List.getElem_cons_zero, List.getElem_cons_succ, Act.put, List.setIfInBounds_toArray, List.set_cons_zero, List.set_cons_succ])
    refine wpAnyH_take (i := 3) (oi := _) (v := ?v3) rfl (by kernel_rfl) (by kernel_rfl) (by kernel_rfl) (fun _ _ _ h => h) (Or.inl ⟨by rfl, ?hy3⟩) (by assumption) ?rest3
    case hy3 => (intro w hSw; (try dsimp only at hSw); go_simp; (try with_reducible rfl))
    (try simp only [List.getElem_toArray, List.getElem_cons_zero, List.getElem_cons_succ, Act.put, List.setIfInBounds_toArray, List.set_cons_zero, List.set_cons_succ])
    refine wpAnyH_take (i := 4) (oi := _) (v := ?v4) rfl (by kernel_rfl) (by kernel_rfl) (by kernel_rfl) (fun _ _ _ h => h) (Or.inl ⟨by rfl, ?hy4⟩) (by assumption) ?rest4
    case hy4 => (intro w hSw; (try dsimp only at hSw); go_simp; (try with_reducible rfl))
    (try simp only [List.getElem_toArray, List.getElem_cons_zero, List.getElem_cons_succ, Act.put, List.setIfInBounds_toArray, List.set_cons_zero, List.set_cons_succ])
    refine wpAnyH_ready (rs := [5]) (by kernel_rfl) (by simp) ?_
    refine AllReadyH.cons (o := _) rfl (fun K hK => ?_) AllReadyH.nil
    go_simp
    (with_reducible refine (HC1.out _).mono ?_)
    rintro en w2 ⟨rfl, hB2⟩
    have hS2 := hide (hSA.out w2 (hD.trans hB2))
    (try go_wp2_with fail)
    refine hK.out _ _ ?_ (fun hHeld => ?_)
    ·exact hS2.out
    clear hK K
    (try simp only [List.getElem_toArray, List.getElem_cons_zero, List.getElem_cons_succ, Act.put, List.setIfInBounds_toArray, List.set_cons_zero, List.set_cons_succ])
    refine wpAnyH_take (i := 6) (oi := _) (v := ?v6) rfl (by kernel_rfl) (by kernel_rfl) (by kernel_rfl) (fun _ _ _ h => h) (Or.inl ⟨by rfl, ?hy6⟩) (by assumption) ?rest6
    case hy6 => (intro w hSw; (try dsimp only at hSw); go_simp; (try with_reducible rfl))
    (try simp only [List.getElem_toArray, List.getElem_cons_zero, List.getElem_cons_succ, Act.put, List.setIfInBounds_toArray, List.set_cons_zero, List.set_cons_succ])
    refine wpAnyH_take (i := 7) (oi := _) (v := ?v7) rfl (by kernel_rfl) (by kernel_rfl) (by kernel_rfl) (fun _ _ _ h => h) (Or.inl ⟨by rfl, ?hy7⟩) (by assumption) ?rest7
    case hy7 => (intro w hSw; (try dsimp only at hSw); go_simp; (try with_reducible rfl))
    (try simp only [List.getElem_toArray, List.getElem_cons_zero, List.getElem_cons_succ, Act.put, List.setIfInBounds_toArray, List.set_cons_zero, List.set_cons_succ])
    refine wpAnyH_take (i := 8) (oi := _) (v := undef) rfl (by kernel_rfl) (by kernel_rfl) (by kernel_rfl) (fun _ _ _ h => h) (Or.inr ⟨by kernel_rfl, rfl⟩) (by assumption) ?rest8
    (try simp only [List.getElem_toArray, List.getElem_cons_zero, List.getElem_cons_succ, Act.put, List.setIfInBounds_toArray, List.set_cons_zero, List.set_cons_succ])
    refine wpAnyH_take (i := 9) (oi := _) (v := undef) rfl (by kernel_rfl) (by kernel_rfl) (by kernel_rfl) (fun _ _ _ h => h) (Or.inr ⟨by kernel_rfl, rfl⟩) (by assumption) ?rest9
    (try simp only [List.getElem_toArray, List.getElem_cons_zero, List.getElem_cons_succ, Act.put, List.setIfInBounds_toArray, List.set_cons_zero, List.set_cons_succ])
    refine wpAnyH_take (i := 10) (oi := _) (v := undef) rfl (by kernel_rfl) (by kernel_rfl) (by kernel_rfl) (fun _ _ _ h => h) (Or.inr ⟨by kernel_rfl, rfl⟩) (by assumption) ?rest10
    (try simp only [List.getElem_toArray, List.getElem_cons_zero, List.getElem_cons_succ, Act.put, List.setIfInBounds_toArray, List.set_cons_zero, List.set_cons_succ])
    refine wpAnyH_take (i := 11) (oi := _) (v := undef) rfl (by kernel_rfl) (by kernel_rfl) (by kernel_rfl) (fun _ _ _ h => h) (Or.inr ⟨by kernel_rfl, rfl⟩) (by assumption) ?rest11
    (try simp only [List.getElem_toArray, List.getElem_cons_zero, List.getElem_cons_succ, Act.put, List.setIfInBounds_toArray, List.set_cons_zero, List.set_cons_succ])
    refine wpAnyH_take (i := 12) (oi := _) (v := undef) rfl (by kernel_rfl) (by kernel_rfl) (by kernel_rfl) (fun _ _ _ h => h) (Or.inr ⟨by kernel_rfl, rfl⟩) (by assumption) ?rest12
    (try simp only [List.getElem_toArray, List.getElem_cons_zero, List.getElem_cons_succ, Act.put, List.setIfInBounds_toArray, List.set_cons_zero, List.set_cons_succ])
    refine wpAnyH_take (i := 13) (oi := _) (v := undef) rfl (by kernel_rfl) (by kernel_rfl) (by kernel_rfl) (fun _ _ _ h => h) (Or.inr ⟨by kernel_rfl, rfl⟩) (by assumption) ?rest13
    (try simp only [List.getElem_toArray, List.getElem_cons_zero, List.getElem_cons_succ, Act.put, List.setIfInBounds_toArray, List.set_cons_zero, List.set_cons_succ])
    refine wpAnyH_take (i := 14) (oi := _) (v := undef) rfl (by kernel_rfl) (by kernel_rfl) (by kernel_rfl) (fun _ _ _ h => h) (Or.inr ⟨by kernel_rfl, rfl⟩) (by assumption) ?rest14
    (try simp only [List.getElem_toArray, List.getElem_cons_zero, List.getElem_cons_succ, Act.put, List.setIfInBounds_toArray, List.set_cons_zero, List.set_cons_succ])
    refine wpAnyH_take (i := 15) (oi := _) (v := undef) rfl (by kernel_rfl) (by kernel_rfl) (by kernel_rfl) (fun _ _ _ h => h) (Or.inr ⟨by kernel_rfl, rfl⟩) (by assumption) ?rest15
    (try simp only [List.getElem_toArray, List.getElem_cons_zero, List.getElem_cons_succ, Act.put, List.setIfInBounds_toArray, List.set_cons_zero, List.set_cons_succ])
    refine wpAnyH_take (i := 16) (oi := _) (v := undef) rfl (by kernel_rfl) (by kernel_rfl) (by kernel_rfl) (fun _ _ _ h => h) (Or.inr ⟨by kernel_rfl, rfl⟩) (by assumption) ?rest16
    (try simp only [List.getElem_toArray, List.getElem_cons_zero, List.getElem_cons_succ, Act.put, List.setIfInBounds_toArray, List.set_cons_zero, List.set_cons_succ])
    refine wpAnyH_take (i := 17) (oi := _) (v := undef) rfl (by kernel_rfl) (by kernel_rfl) (by kernel_rfl) (fun _ _ _ h => h) (Or.inr ⟨by kernel_rfl, rfl⟩) (by assumption) ?rest17
    (try simp only [List.getElem_toArray, List.getElem_cons_zero, List.getElem_cons_succ, Act.put, List.setIfInBounds_toArray, List.set_cons_zero, List.set_cons_succ])
    refine wpAnyH_take (i := 18) (oi := _) (v := ?v18) rfl (by kernel_rfl) (by kernel_rfl) (by kernel_rfl) (fun _ _ _ h => h) (Or.inl ⟨by rfl, ?hy18⟩) (by assumption) ?rest18
    case hy18 => (intro w hSw; (try dsimp only at hSw); go_simp; (try with_reducible rfl))
    (try simp only [List.getElem_toArray, List.getElem_cons_zero, List.getElem_cons_succ, Act.put, List.setIfInBounds_toArray, List.set_cons_zero, List.set_cons_succ])
    refine wpAnyH_done (by kernel_rfl) ?_ _
    refine NoPanic.normal ?_
    have HB9 := hide (HBAw.out.trans ((hD.trans hB2).mono HBAw.out.size))
    clear hD hB2 hS2
    go_wp2
    go_ret
    exact ⟨by rw [HF.out]; rfl, HB9.out⟩
  ·obtain rfl : i = n := by omega
   have HB := hide hBw
   have HT := hide (show refB i es m v = true by
    unfold refB
    rw [List.all_eq_true]
    intro j hj
    exact hJ.out j (List.mem_range.1 hj))
   clear hB hBw
   go_wp2
   go_ret
   exact ⟨by rw [HT.out]; rfl, HB.out⟩
def mulF (q : Nat) (a b : Nat → Nat → Int) : Nat → Nat → Int := fun i k => dotV a b i k q
set_option maxRecDepth 100000 in
set_option maxHeartbeats 2000000 in
theorem mxProduct_any (Ga Gb m q n : Nat) (a b : Nat → Nat → Int) (w : World) (hq0 : 0 < q) (hm : m ≤ 40) (hq : q ≤ 40) (hn : n ≤ 40) (hMa : Mat w Ga m q a) (hMb : Mat w Gb q n b)
  (A B : Nat) (ha : ∀ i j, i < m → j < q → (a i j).natAbs ≤ A) (hb : ∀ j k, j < q → k < n → (b j k).natAbs ≤ B) (hsA : Sml A) (hsB : Sml B) (hs : Sml (41 * (A * B))) :
  Calls Tryz.prog 120 #[.slice (some ⟨Ga, 0, none⟩) m m, .slice (some ⟨Gb, 0, none⟩) q q] w fun e w' => ∃ G, e = .returned (.slice (some ⟨G, 0, none⟩) m m) ∧ MatL w.heap.size w' G m n (mulF q a b) ∧ Below w.heap.size w w' := by
 have hB0 : Below w.heap.size w ((w.alloc (.cells #[.slice (some ⟨Ga, 0, none⟩) m m] 36)).alloc (.cells #[.slice (some ⟨Gb, 0, none⟩) q q] 36)) := ((Below.refl _ w).alloc (Nat.le_refl _) _).alloc (by simp) _
 have hs0 : ((w.alloc (.cells #[.slice (some ⟨Ga, 0, none⟩) m m] 36)).alloc (.cells #[.slice (some ⟨Gb, 0, none⟩) q q] 36)).heap.size = w.heap.size + 1 + 1 := by simp
 have c1 : ((w.alloc (.cells #[.slice (some ⟨Ga, 0, none⟩) m m] 36)).alloc (.cells #[.slice (some ⟨Gb, 0, none⟩) q q] 36)).cell? ⟨w.heap.size, 0, none⟩ = some (.slice (some ⟨Ga, 0, none⟩) m m) := by
  rw [World.cell?_alloc_lt _ _ _ (by simp)]; exact cell_of_one (heap_alloc_new _ _)
 have c2 : ((w.alloc (.cells #[.slice (some ⟨Ga, 0, none⟩) m m] 36)).alloc (.cells #[.slice (some ⟨Gb, 0, none⟩) q q] 36)).cell? ⟨w.heap.size + 1, 0, none⟩ = some (.slice (some ⟨Gb, 0, none⟩) q q) := by
  have := cell_of_one (heap_alloc_new (w.alloc (.cells #[.slice (some ⟨Ga, 0, none⟩) m m] 36)) (.cells #[.slice (some ⟨Gb, 0, none⟩) q q] 36))
  rw [World.size_alloc] at this
  exact this
 have hM1' := hMa.below hB0 (Nat.le_refl _)
 have hM2' := hMb.below hB0 (Nat.le_refl _)
 obtain ⟨R, hR, h1, _⟩ := hM2'.read hq0
 obtain ⟨Z, hZ⟩ : ∃ Z, w.heap.size = Z := ⟨_, rfl⟩
 rw [hZ] at hB0 hs0 c1 c2 ⊢
 clear hMa hMb
 go_enter Tryz.func120, Tryz.ntmps120
 go_wp2_with fail
 try rw [hZ]
 generalize (w.alloc (.cells #[.slice (some ⟨Ga, 0, none⟩) m m] 36)).alloc (.cells #[.slice (some ⟨Gb, 0, none⟩) q q] 36) = W0 at hB0 hs0 c1 c2 hM1' hM2' hR h1 ⊢
 clear hZ
 have d1 : W0.drew.cell? ⟨Z, 0, none⟩ = _ := c1
 have d2 : W0.drew.cell? ⟨Gb, 0, none⟩ = _ := h1
 have d3 : W0.drew.cell? ⟨Z + 1, 0, none⟩ = _ := c2
 have im : (0 : Int) < (q : Int) := by omega
 have HT := hide (mxTable_any 187 (.pointer (some ⟨Z + 1, 0, none⟩)) (.pointer (some ⟨Z, 0, none⟩)) m n (mulF q a b) W0.drew hm hn (enters_of Tryz.func187 (by kernel_rfl) rfl)
  (hide fun i k W hi hk hW => mxProductf_any Ga Gb m q n Z (Z + 1) i k a b W hi hk hq (Mat.below (w := W0.drew) hM1' hW (Nat.le_refl _)) (Mat.below (w := W0.drew) hM2' hW (Nat.le_refl _))
   ((hW.cell (p := ⟨Z, 0, none⟩) (show Z < W0.heap.size by omega)).trans d1) ((hW.cell (p := ⟨Z + 1, 0, none⟩) (show Z + 1 < W0.heap.size by omega)).trans d3) A B (fun j hj => ha i j hi hj) (fun j hj => hb j k hj hk) hsA hsB hs))
 have HB0 := hide hB0
 have HS0 := hide hs0
 have hall := hide (show ∀ W, Below W0.drew.heap.size W0.drew W → W.cell? ⟨Z, 0, none⟩ = some (.slice (some ⟨Ga, 0, none⟩) m m) ∧ W.cell? ⟨Z + 1, 0, none⟩ = some (.slice (some ⟨Gb, 0, none⟩) q q) ∧ W.cell? ⟨Gb, 0, none⟩ = some (.slice (some ⟨R, 0, none⟩) n n) from fun W hW =>
  ⟨(hW.cell (p := ⟨Z, 0, none⟩) (show Z < W0.heap.size by omega)).trans d1, (hW.cell (p := ⟨Z + 1, 0, none⟩) (show Z + 1 < W0.heap.size by omega)).trans d3, (hW.cell (p := ⟨Gb, 0, none⟩) (World.block_lt_of_cell? W0 _ h1)).trans d2⟩)
 have hRf := hide (Below.refl W0.drew.heap.size W0.drew)
 clear hM1' hM2' hb ha hsA hsB hs hB0 hs0 c1 c2 h1 hR d1 d2 d3
 go_region_held3 (fun W => W.cell? ⟨Z, 0, none⟩ = some (.slice (some ⟨Ga, 0, none⟩) m m) ∧ W.cell? ⟨Z + 1, 0, none⟩ = some (.slice (some ⟨Gb, 0, none⟩) q q) ∧ W.cell? ⟨Gb, 0, none⟩ = some (.slice (some ⟨R, 0, none⟩) n n))
  (first | with_reducible exact hall.out _ hRf.out | with_reducible exact hall.out _ HB.out)
  (first | (go_at_call 70; (with_reducible refine HT.out.mono ?_); rintro e w1 ⟨G, rfl, hM, hB⟩; have HM := hide hM; have HB := hide hB; clear hM hB))
 all_goals (
  go_wp2
  go_ret
  exact ⟨G, rfl, HM.out.mono (by have := HS0.out; show Z ≤ W0.heap.size; omega), HB0.out.trans (Below.trans (Below.refl Z W0).drew (HB.out.mono (by have := HS0.out; show Z ≤ W0.heap.size; omega)))⟩)
set_option maxRecDepth 100000 in
set_option maxHeartbeats 2000000 in
theorem mxSumf_any (G1 G2 m n c1 c2 i k : Nat) (f g : Nat → Nat → Int) (w : World) (hi : i < m) (hk : k < n) (hM1 : Mat w G1 m n f) (hM2 : Mat w G2 m n g)
  (hc1 : w.cell? ⟨c1, 0, none⟩ = some (.slice (some ⟨G1, 0, none⟩) m m)) (hc2 : w.cell? ⟨c2, 0, none⟩ = some (.slice (some ⟨G2, 0, none⟩) m m)) (hs1 : Sml (f i k).natAbs) (hs2 : Sml (g i k).natAbs) :
  Calls Tryz.prog 190 #[.int .i64 (i : Int), .int .i64 (k : Int), .pointer (some ⟨c1, 0, none⟩), .pointer (some ⟨c2, 0, none⟩)] w fun e w' => e = .returned (.agg #[.bool (ng (f i k + g i k)), .string (mgI (f i k + g i k))]) ∧ Below w.heap.size w w' := by
 have hk0 : ResI (w.alloc (Obj.cells #[Value.bool false, Value.string { data := #[] }] 55)) w.heap.size false ⟨#[]⟩ := ResI.new_ w _ _
 have hB0 : Below w.heap.size w (w.alloc (Obj.cells #[Value.bool false, Value.string { data := #[] }] 55)) := (Below.refl _ w).alloc (Nat.le_refl _) _
 have hs0 : (w.alloc (Obj.cells #[Value.bool false, Value.string { data := #[] }] 55)).heap.size = w.heap.size + 1 := by simp
 obtain ⟨R, hR, h1, h2⟩ := hM1.read hi
 obtain ⟨R', hR', h1', h2'⟩ := hM2.read hi
 obtain ⟨h3, h4⟩ := h2 k hk
 obtain ⟨h3', h4'⟩ := h2' k hk
 have hcl1 := World.block_lt_of_cell? w _ hc1
 have hcl2 := World.block_lt_of_cell? w _ hc2
 have e0 := (hB0.cell (p := ⟨c1, 0, none⟩) hcl1).trans hc1
 have e1 := (hB0.cell (p := ⟨G1, i, none⟩) hM1.lt).trans h1
 have e3 := (hB0.cell (p := ⟨R, k * 2, none⟩) hR).trans h3
 have e4 := (hB0.cell (p := ⟨R, k * 2 + 1, none⟩) hR).trans h4
 have g0 := (hB0.cell (p := ⟨c2, 0, none⟩) hcl2).trans hc2
 have g1 := (hB0.cell (p := ⟨G2, i, none⟩) hM2.lt).trans h1'
 have g3 := (hB0.cell (p := ⟨R', k * 2, none⟩) hR').trans h3'
 have g4 := (hB0.cell (p := ⟨R', k * 2 + 1, none⟩) hR').trans h4'
 have i0 : (0 : Int) ≤ (i : Int) := by omega
 have i1 : (i : Int) < (m : Int) := by omega
 have j0 : (0 : Int) ≤ (k : Int) := by omega
 have j1 : (k : Int) < (n : Int) := by omega
 obtain ⟨x, hx⟩ : ∃ x, f i k = x := ⟨_, rfl⟩
 obtain ⟨y, hy⟩ : ∃ y, g i k = y := ⟨_, rfl⟩
 rw [hx] at e3 e4 hs1 ⊢
 rw [hy] at g3 g4 hs2 ⊢
 have HN := hide (fun W => iAdd_g x y W hs1 hs2)
 obtain ⟨Z, hZ⟩ : ∃ Z, w.heap.size = Z := ⟨_, rfl⟩
 rw [hZ] at hk0 hB0 hs0
 have HZ := hide hZ
 have hall := hide (show ∀ W, Below Z (w.alloc (Obj.cells #[Value.bool false, Value.string { data := #[] }] 55)) W → W.cell? ⟨c1, 0, none⟩ = some (.slice (some ⟨G1, 0, none⟩) m m) ∧ W.cell? ⟨G1, i, none⟩ = some (.slice (some ⟨R, 0, none⟩) n n) ∧ W.cell? ⟨R, k * 2, none⟩ = some (.bool (ng x)) ∧ W.cell? ⟨R, k * 2 + 1, none⟩ = some (.string (mgI x)) ∧
   W.cell? ⟨c2, 0, none⟩ = some (.slice (some ⟨G2, 0, none⟩) m m) ∧ W.cell? ⟨G2, i, none⟩ = some (.slice (some ⟨R', 0, none⟩) n n) ∧ W.cell? ⟨R', k * 2, none⟩ = some (.bool (ng y)) ∧ W.cell? ⟨R', k * 2 + 1, none⟩ = some (.string (mgI y)) from fun W hW => by
  have l1 := hM1.lt
  have l2 := hM2.lt
  rw [hZ] at l1 l2 hcl1 hcl2 hR hR'
  exact ⟨(hW.cell (p := ⟨c1, 0, none⟩) hcl1).trans e0, (hW.cell (p := ⟨G1, i, none⟩) l1).trans e1, (hW.cell (p := ⟨R, k * 2, none⟩) hR).trans e3, (hW.cell (p := ⟨R, k * 2 + 1, none⟩) hR).trans e4, (hW.cell (p := ⟨c2, 0, none⟩) hcl2).trans g0, (hW.cell (p := ⟨G2, i, none⟩) l2).trans g1, (hW.cell (p := ⟨R', k * 2, none⟩) hR').trans g3, (hW.cell (p := ⟨R', k * 2 + 1, none⟩) hR').trans g4⟩)
 clear hM1 hM2 hc1 hc2 h1 h2 h3 h4 h1' h2' h3' h4' hx hy hs1 hs2 hZ hR hR' hcl1 hcl2 e0 e1 e3 e4 g0 g1 g3 g4
 go_enter Tryz.func190, Tryz.ntmps190
 go_wp2_with fail
 rw [HZ.out]
 generalize w.alloc (Obj.cells #[Value.bool false, Value.string { data := #[] }] 55) = W0 at hk0 hB0 hs0 hall ⊢
 have hD : Below Z W0 W0.drew := (Below.refl _ _).drew
 have hD1 : Below (Z + 1) W0 W0.drew := (Below.refl _ _).drew
 have lZ : Z < Z + 1 := Nat.lt_succ_self _
 go_region_held3 (fun W => W.cell? ⟨c1, 0, none⟩ = some (.slice (some ⟨G1, 0, none⟩) m m) ∧ W.cell? ⟨G1, i, none⟩ = some (.slice (some ⟨R, 0, none⟩) n n) ∧ W.cell? ⟨R, k * 2, none⟩ = some (.bool (ng x)) ∧ W.cell? ⟨R, k * 2 + 1, none⟩ = some (.string (mgI x)) ∧
   W.cell? ⟨c2, 0, none⟩ = some (.slice (some ⟨G2, 0, none⟩) m m) ∧ W.cell? ⟨G2, i, none⟩ = some (.slice (some ⟨R', 0, none⟩) n n) ∧ W.cell? ⟨R', k * 2, none⟩ = some (.bool (ng y)) ∧ W.cell? ⟨R', k * 2 + 1, none⟩ = some (.string (mgI y)))
  (first | with_reducible exact hall.out _ hD | with_reducible exact hall.out _ (Below.pair hD (Nat.le_refl Z) _ _))
  (first | (go_at_call 24; (with_reducible refine (HN.out _).mono ?_); rintro e w1 ⟨rfl, hB1⟩; replace hD := hD.trans (hB1.mono (show Z ≤ W0.heap.size by omega)); have hB2 : Below (Z + 1) W0 w1 := hD1.trans (hB1.mono (Nat.le_of_eq hs0.symm)); have hk1 := hk0.below hB2 lZ; have y0 := hk1.c0; have y1 := hk1.c1; have z0 := hk1.z0; have z1 := hk1.z1))
 all_goals (
  go_wp2
  refine bodyPost_ret (ret_apiInt rfl _ _ Z _ rfl (hk1.set_ _ _) rfl) rfl ?_
  refine ⟨rfl, ?_⟩
  rw [HZ.out]
  exact Below.pair (hB0.trans (hB2.mono (by omega))) (Nat.le_refl _) _ _)
set_option maxRecDepth 100000 in
set_option maxHeartbeats 2000000 in
theorem mxSum_any (G1 G2 m n : Nat) (f g : Nat → Nat → Int) (w : World) (hm0 : 0 < m) (hm : m ≤ 40) (hn : n ≤ 40) (hM1 : Mat w G1 m n f) (hM2 : Mat w G2 m n g) (hs : ∀ i k, i < m → k < n → Sml (f i k).natAbs ∧ Sml (g i k).natAbs) :
  Calls Tryz.prog 123 #[.slice (some ⟨G1, 0, none⟩) m m, .slice (some ⟨G2, 0, none⟩) m m] w fun e w' => ∃ G, e = .returned (.slice (some ⟨G, 0, none⟩) m m) ∧ MatL w.heap.size w' G m n (fun i k => f i k + g i k) ∧ Below w.heap.size w w' := by
 have hB0 : Below w.heap.size w ((w.alloc (.cells #[.slice (some ⟨G1, 0, none⟩) m m] 36)).alloc (.cells #[.slice (some ⟨G2, 0, none⟩) m m] 36)) := ((Below.refl _ w).alloc (Nat.le_refl _) _).alloc (by simp) _
 have hs0 : ((w.alloc (.cells #[.slice (some ⟨G1, 0, none⟩) m m] 36)).alloc (.cells #[.slice (some ⟨G2, 0, none⟩) m m] 36)).heap.size = w.heap.size + 1 + 1 := by simp
 have c1 : ((w.alloc (.cells #[.slice (some ⟨G1, 0, none⟩) m m] 36)).alloc (.cells #[.slice (some ⟨G2, 0, none⟩) m m] 36)).cell? ⟨w.heap.size, 0, none⟩ = some (.slice (some ⟨G1, 0, none⟩) m m) := by
  rw [World.cell?_alloc_lt _ _ _ (by simp)]; exact cell_of_one (heap_alloc_new _ _)
 have c2 : ((w.alloc (.cells #[.slice (some ⟨G1, 0, none⟩) m m] 36)).alloc (.cells #[.slice (some ⟨G2, 0, none⟩) m m] 36)).cell? ⟨w.heap.size + 1, 0, none⟩ = some (.slice (some ⟨G2, 0, none⟩) m m) := by
  have := cell_of_one (heap_alloc_new (w.alloc (.cells #[.slice (some ⟨G1, 0, none⟩) m m] 36)) (.cells #[.slice (some ⟨G2, 0, none⟩) m m] 36))
  rw [World.size_alloc] at this
  exact this
 have hM1' := hM1.below hB0 (Nat.le_refl _)
 have hM2' := hM2.below hB0 (Nat.le_refl _)
 obtain ⟨R, hR, h1, _⟩ := hM1'.read hm0
 obtain ⟨Z, hZ⟩ : ∃ Z, w.heap.size = Z := ⟨_, rfl⟩
 rw [hZ] at hB0 hs0 c1 c2 ⊢
 clear hM1 hM2
 go_enter Tryz.func123, Tryz.ntmps123
 go_wp2_with fail
 try rw [hZ]
 generalize (w.alloc (.cells #[.slice (some ⟨G1, 0, none⟩) m m] 36)).alloc (.cells #[.slice (some ⟨G2, 0, none⟩) m m] 36) = W0 at hB0 hs0 c1 c2 hM1' hM2' hR h1 ⊢
 clear hZ
 have d1 : W0.drew.cell? ⟨Z, 0, none⟩ = _ := c1
 have d2 : W0.drew.cell? ⟨G1, 0, none⟩ = _ := h1
 have d3 : W0.drew.cell? ⟨Z + 1, 0, none⟩ = _ := c2
 have im : (0 : Int) < (m : Int) := by omega
 have HT := hide (mxTable_any 190 (.pointer (some ⟨Z, 0, none⟩)) (.pointer (some ⟨Z + 1, 0, none⟩)) m n (fun i k => f i k + g i k) W0.drew hm hn (enters_of Tryz.func190 (by kernel_rfl) rfl)
  (hide fun i k W hi hk hW => mxSumf_any G1 G2 m n Z (Z + 1) i k f g W hi hk (Mat.below (w := W0.drew) hM1' hW (Nat.le_refl _)) (Mat.below (w := W0.drew) hM2' hW (Nat.le_refl _))
   ((hW.cell (p := ⟨Z, 0, none⟩) (show Z < W0.heap.size by omega)).trans d1) ((hW.cell (p := ⟨Z + 1, 0, none⟩) (show Z + 1 < W0.heap.size by omega)).trans d3) (hs i k hi hk).1 (hs i k hi hk).2))
 have HB0 := hide hB0
 have HS0 := hide hs0
 clear hM1' hM2' hs hB0 hs0 c1 c2 h1 hR
 go_region_with (first | (go_at_call 70; (with_reducible refine HT.out.mono ?_); rintro e w1 ⟨G, rfl, hM, hB⟩; have HM := hide hM; have HB := hide hB; clear hM hB))
 all_goals (
  go_wp2
  go_ret
  exact ⟨G, rfl, HM.out.mono (by have := HS0.out; show Z ≤ W0.heap.size; omega), HB0.out.trans (Below.trans (Below.refl Z W0).drew (HB.out.mono (by have := HS0.out; show Z ≤ W0.heap.size; omega)))⟩)
def traceV (f : Nat → Nat → Int) : Nat → Int
 | 0 => 0
 | n + 1 => traceV f n + f n n
set_option maxRecDepth 100000 in
set_option maxHeartbeats 2000000 in
theorem mxTrace_any (G n : Nat) (f : Nat → Nat → Int) (w : World) (hn : n ≤ 40) (hM : Mat w G n n f) (hs : ∀ i, i < n → Sml (f i i).natAbs) (hst : ∀ i, i ≤ n → Sml (traceV f i).natAbs) :
  Calls Tryz.prog 122 #[.slice (some ⟨G, 0, none⟩) n n] w fun e w' => e = .returned (.agg #[.bool (ng (traceV f n)), .string (mgI (traceV f n))]) ∧ Below w.heap.size w w' := by
 obtain ⟨c0, c1, hs0, hB0⟩ := boxes2 w false false ⟨#[]⟩ ⟨#[]⟩
 obtain ⟨Z, hZ⟩ : ∃ Z, w.heap.size = Z := ⟨_, rfl⟩
 rw [hZ] at hB0 hs0 c0 c1 ⊢
 have hGZ : G < Z := by rw [← hZ]; exact hM.lt
 have HS := hide hs
 have HST := hide hst
 have HM0 := hide (fun wr (hB : Below Z w wr) => hM.below hB (Nat.le_of_eq hZ))
 clear hM hs hst
 go_enter Tryz.func122, Tryz.ntmps122
 go_wp2
 try rw [hZ]
 generalize (w.alloc (.cells #[.bool false, .string ⟨#[]⟩] 55)).alloc (.cells #[.bool false, .string ⟨#[]⟩] 55) = W0 at hB0 hs0 c0 c1 ⊢
 clear hZ
 go_loopw [8] (fun iv wr => ∃ i : Nat, iv = .int .i64 i ∧ i ≤ n ∧ ResI wr Z false ⟨#[]⟩ ∧ ResI wr (Z + 1) (ng (traceV f i)) (mgI (traceV f i)) ∧ Z + 1 + 1 ≤ wr.heap.size ∧ Below Z w wr) (fun iv _ => n - (intOf iv).toNat)
 case atStart => exact ⟨0, rfl, Nat.zero_le _, c0, by rw [show traceV f 0 = 0 from rfl, mgI_zero]; exact c1, Nat.le_of_eq hs0.symm, hB0⟩
 case round =>
  obtain ⟨i, rfl, hi, k0, k1, hsz, hB⟩ := hrel
  clear c0 c1 hB0 hs0
  by_cases hlt : i < n
  ·have hi0 : (0 : Int) ≤ (i : Int) := by omega
   have hi1 : (i : Int) < (n : Int) := by omega
   obtain ⟨R, hR, h1, h2⟩ := (HM0.out wr hB).read hlt
   obtain ⟨h3, h4⟩ := h2 i hlt
   obtain ⟨x, hx⟩ : ∃ x, f i i = x := ⟨_, rfl⟩
   obtain ⟨y, hy⟩ : ∃ y, traceV f i = y := ⟨_, rfl⟩
   rw [hx] at h3 h4
   rw [hy] at k1
   have HN := hide (fun W => iAdd_g y x W (by rw [← hy]; exact HST.out i hi) (by rw [← hx]; exact HS.out i hlt))
   have HV := hide (show traceV f (i + 1) = y + x by rw [← hx, ← hy]; rfl)
   have HB := hide hB
   clear h2 hx hy hB
   go_wp2_with fail
   have r0 : ResI wr.drew Z false ⟨#[]⟩ := k0
   have r1 : ResI wr.drew (Z + 1) (ng y) (mgI y) := k1
   have e0 := r1.c0
   have e1 := r1.c1
   have e3 : wr.drew.cell? ⟨R, i * 2, none⟩ = _ := h3
   have e4 : wr.drew.cell? ⟨R, i * 2 + 1, none⟩ = _ := h4
   have lZ1 : Z + 1 < Z + 1 + 1 := Nat.lt_succ_self _
   have lZ : Z < Z + 1 + 1 := by omega
   have hne : Z ≠ Z + 1 := by omega
   go_region_with (first | (go_at_call 24; (with_reducible refine (HN.out _).mono ?_); rintro e w1 ⟨rfl, hB1⟩; have hB2 : Below (Z + 1 + 1) wr w1 := (Below.refl (Z + 1 + 1) wr).drew.trans (hB1.mono hsz); have q1 := k1.below hB2 lZ1; have y0 := q1.c0; have y1 := q1.c1; have z0 := q1.z0; have z1 := q1.z1))
   all_goals (
    have q2 := q1.set_ (ng (y + x)) (mgI (y + x))
    have q0 := (k0.below hB2 lZ).other hne (.bool (ng (y + x))) (.string (mgI (y + x)))
    have hB3 := Below.pair (HB.out.trans (hB2.mono (by omega))) (Nat.le_succ Z) (.bool (ng (y + x))) (.string (mgI (y + x)))
    have hs3 : Z + 1 + 1 ≤ ((w1.setCell ⟨Z + 1, 0, none⟩ (.bool (ng (y + x)))).setCell ⟨Z + 1, 1, none⟩ (.string (mgI (y + x)))).heap.size := Nat.le_trans (Nat.le_trans hsz hB2.size) (Below.pair (Below.refl 0 w1) (Nat.zero_le (Z + 1)) _ _).size
    clear e0 e1 e3 e4 y0 y1 z0 z1 k0 k1 q1 r0 r1 h1 h3 h4
    go_wp2
    go_roundw
    case rel => exact ⟨i + 1, by go_num, hlt, q0, by rw [HV.out]; exact q2, hs3, hB3⟩
    case measure => simp [intOf]; omega)
  ·obtain rfl : i = n := by omega
   have e0 := k1.c0
   have e1 := k1.c1
   have y0 := k0.c0
   have y1 := k0.c1
   have z0 := k0.z0
   have z1 := k0.z1
   have HB := hide hB
   have HK := hide k0
   clear hB
   go_wp2
   refine bodyPost_ret (ret_apiInt rfl _ _ Z _ rfl (k0.set_ _ _) rfl) rfl ?_
   exact ⟨rfl, Below.pair HB.out (Nat.le_refl _) _ _⟩
section
def chM (n : Nat) (a : Nat → Nat → Int) : Nat → Nat → Nat → Int
 | 0 => fun i j => if i = j then 1 else 0
 | k + 1 => fun i j => mulF n a (chM n a k) i j + if i = j then -(traceV (mulF n a (chM n a k)) n) / ((k + 1 : Nat) : Int) else 0
theorem dotV_le {a b : Nat → Nat → Int} {i k A B : Nat} : ∀ q, (∀ j, j < q → (a i j).natAbs ≤ A) → (∀ j, j < q → (b j k).natAbs ≤ B) → (dotV a b i k q).natAbs ≤ q * (A * B)
 | 0, _, _ => by simp [dotV]
 | q + 1, ha, hb => by
  have ih := dotV_le q (fun j hj => ha j (by omega)) (fun j hj => hb j (by omega))
  have h1 := prod_le (ha q (Nat.lt_succ_self _)) (hb q (Nat.lt_succ_self _))
  have h2 := Int.natAbs_add_le (dotV a b i k q) (a i q * b q k)
  simp only [dotV, Nat.add_mul, Nat.one_mul]
  omega
theorem traceV_le {f : Nat → Nat → Int} {U : Nat} : ∀ n, (∀ i, i < n → (f i i).natAbs ≤ U) → (traceV f n).natAbs ≤ n * U
 | 0, _ => by simp [traceV]
 | n + 1, h => by
  have ih := traceV_le n (fun i hi => h i (by omega))
  have h1 := h n (Nat.lt_succ_self _)
  have h2 := Int.natAbs_add_le (traceV f n) (f n n)
  simp only [traceV, Nat.add_mul, Nat.one_mul]
  omega
theorem ediv_le (x : Int) (k : Nat) (hk : 0 < k) : (x / (k : Int)).natAbs ≤ x.natAbs := by
 by_cases h : x < 0
 ·obtain ⟨X, rfl⟩ : ∃ X : Nat, x = -(X : Int) := ⟨x.natAbs, by omega⟩
  have h1 := (ediv_neg X k hk).1
  rw [h1]
  have h2 := Nat.div_add_mod X k
  have h4 : X / k ≤ X := Nat.div_le_self _ _
  have h7 : X / k ≤ k * (X / k) := Nat.le_mul_of_pos_left _ hk
  generalize X % k = r at h2 ⊢
  generalize X / k = q at h2 h4 h7 ⊢
  generalize k * q = kq at h2 h7
  split <;> omega
 ·obtain ⟨X, rfl⟩ : ∃ X : Nat, x = (X : Int) := ⟨x.natAbs, by omega⟩
  rw [(ediv_pos X k).1]
  have h4 : X / k ≤ X := Nat.div_le_self _ _
  generalize X / k = q at h4 ⊢
  omega
theorem iOf_1 (w : World) : Calls Tryz.prog 18 #[.int .i64 1] w fun e w' => e = .returned (.agg #[.bool (ng 1), .string (mgI 1)]) ∧ Below w.heap.size w w' := iOf_g 1 (by decide) w
theorem sml_pow {k : Nat} (h : k ≤ 1900) : Sml (4294967296 ^ k) := ⟨k + 1, by omega, Nat.pow_lt_pow_right (by decide) (Nat.lt_succ_self _)⟩
section
variable {n : Nat} {a : Nat → Nat → Int}
theorem mul_le (hn : n ≤ 40) (ha : ∀ i j, i < n → j < n → (a i j).natAbs ≤ 65536) {f : Nat → Nat → Int} {U : Nat} (hf : ∀ i j, i < n → j < n → (f i j).natAbs ≤ U) {i j : Nat} (hi : i < n) (hj : j < n) : (mulF n a f i j).natAbs ≤ 2621440 * U := by
 have h := dotV_le (a := a) (b := f) (i := i) (k := j) (A := 65536) (B := U) n (fun t ht => ha i t hi ht) (fun t ht => hf t j ht hj)
 have h2 : n * (65536 * U) ≤ 40 * (65536 * U) := Nat.mul_le_mul_right _ hn
 unfold mulF
 omega
theorem tr_le (hn : n ≤ 40) (ha : ∀ i j, i < n → j < n → (a i j).natAbs ≤ 65536) {f : Nat → Nat → Int} {U : Nat} (hf : ∀ i j, i < n → j < n → (f i j).natAbs ≤ U) {t : Nat} (ht : t ≤ n) : (traceV (mulF n a f) t).natAbs ≤ 104857600 * U := by
 have h := traceV_le (f := mulF n a f) (U := 2621440 * U) t (fun i hi => mul_le hn ha hf (by omega) (by omega))
 have h2 : t * (2621440 * U) ≤ 40 * (2621440 * U) := Nat.mul_le_mul_right _ (by omega)
 omega
theorem chM_le (hn : n ≤ 40) (ha : ∀ i j, i < n → j < n → (a i j).natAbs ≤ 65536) : ∀ k i j, i < n → j < n → (chM n a k i j).natAbs ≤ 4294967296 ^ k
 | 0, i, j, _, _ => by
  unfold chM; split <;> simp
 | k + 1, i, j, hi, hj => by
  have h1 := mul_le hn ha (chM_le hn ha k) hi hj
  have h2 := tr_le hn ha (chM_le hn ha k) (Nat.le_refl n)
  have h3 := ediv_le (-(traceV (mulF n a (chM n a k)) n)) (k + 1) (by omega)
  rw [Int.natAbs_neg] at h3
  rw [Nat.pow_succ]
  show (mulF n a (chM n a k) i j + if i = j then -(traceV (mulF n a (chM n a k)) n) / ((k + 1 : Nat) : Int) else 0).natAbs ≤ _
  generalize mulF n a (chM n a k) i j = x at h1
  generalize -(traceV (mulF n a (chM n a k)) n) / ((k + 1 : Nat) : Int) = y at h3
  have h4 : (if i = j then y else 0 : Int).natAbs ≤ y.natAbs := by split <;> simp
  have h5 := Int.natAbs_add_le x (if i = j then y else 0)
  generalize (4294967296 : Nat) ^ k = U at h1 h2 ⊢
  omega
end
set_option maxRecDepth 100000 in
set_option maxHeartbeats 4000000 in
theorem mxChar_any (Ga n : Nat) (a : Nat → Nat → Int) (w : World) (hn0 : 0 < n) (hn : n ≤ 40) (ha : ∀ i j, i < n → j < n → (a i j).natAbs ≤ 65536) (hMa : Mat w Ga n n a) :
  Calls Tryz.prog 69 #[.slice (some ⟨Ga, 0, none⟩) n n] w fun e w' => ∃ p G, e = .returned (.tuple #[p, .slice (some ⟨G, 0, none⟩) n n]) ∧ Mat w' G n n (chM n a (n - 1)) ∧ Below w.heap.size w w' := by
 obtain ⟨M, hM⟩ : ∃ M, M = n + 1 := ⟨_, rfl⟩
 have hMi : (n : Int) + 1 = (M : Int) := by omega
 have hM7 : M ≤ 70000 := by omega
 have hnM : n < M := by omega
 have hmk := fun W => run_make_ss M hM7 W
 have hO1 := hide (fun W => iOf_1 W)
 obtain ⟨P, hPP⟩ : ∃ P, w.heap.size = P := ⟨_, rfl⟩
 have hW1 : SRow (w.alloc (.cells (scells (List.replicate M 0)).toArray 55)) P (List.replicate M 0) := by rw [← hPP]; exact SRow.new_ _ _
 have hW2 : Below P w (w.alloc (.cells (scells (List.replicate M 0)).toArray 55)) := by rw [← hPP]; exact (Below.refl _ w).alloc (Nat.le_refl _) _
 have hWs : (w.alloc (.cells (scells (List.replicate M 0)).toArray 55)).heap.size = P + 1 := by rw [← hPP]; simp
 have HMa := hide (fun W (hB : Below P w W) => hMa.below hB (Nat.le_of_eq hPP))
 have HPP := hide hPP
 have HA := hide ha
 have HM := hide hM
 have hn0i : (0 : Int) < (n : Int) := by omega
 clear hMa ha hM
 go_enter Tryz.func69, Tryz.ntmps69
 go_wp2_with fail
 try rw [hPP]
 clear hPP
 generalize w.alloc (.cells (scells (List.replicate M 0)).toArray 55) = W1 at hW1 hW2 hWs ⊢
 (with_reducible refine (hO1.out _).mono ?_)
 rintro e w1 ⟨rfl, hB1⟩
 have hR1 := hW1.below hB1 hW1.lt
 have hl : n < (List.replicate M (0 : Int)).length := by rw [List.length_replicate]; exact hnM
 have y0 := hR1.c0 hl
 have y1 := hR1.c1 hl
 have z0 := hR1.free_ (n * 2)
 have z1 := hR1.free_ (n * 2 + 1)
 have hS2 := hR1.set_ hl 1
 have hBP : Below P w ((w1.setCell ⟨P, n * 2, none⟩ (.bool (ng 1))).setCell ⟨P, n * 2 + 1, none⟩ (.string (mgI 1))) := Below.pairG (hW2.trans (hB1.mono (by omega))) (Nat.le_refl _) _ _ _ _
 have HSC := hide (fun W => mxScalar_any n 1 W hn)
 go_wp2_with fail
 generalize (w1.setCell ⟨P, n * 2, none⟩ (.bool (ng 1))).setCell ⟨P, n * 2 + 1, none⟩ (.string (mgI 1)) = W2 at hS2 hBP ⊢
 clear y0 y1 z0 z1 hR1 hB1 hW1 hW2 hWs hO1
 (with_reducible refine (HSC.out _).mono ?_)
 rintro e w2 ⟨G0, rfl, hM0, hB2⟩
 have hS3 := hS2.below hB2 hS2.lt
 have hBP3 := hBP.trans (hB2.mono (Nat.le_of_lt hS2.lt))
 have hlen : ((List.replicate M (0 : Int)).set n 1).length = M := by simp
 generalize (List.replicate M (0 : Int)).set n 1 = zs0 at hS3 hlen
 have HM0 := hide (hM0.mono (show P + 1 ≤ _ from Nat.succ_le_of_lt hS2.lt))
 have HS3 := hide hS3
 have HL := hide hlen
 clear hS2 hBP hB2 hM0 hS3 hl hlen HSC
 go_wp2
 go_loopw [6, 7] (fun mv kv wr => ∃ (k G : Nat) (zs : List Int), mv = .slice (some ⟨G, 0, none⟩) n n ∧ kv = .int .i64 ((k + 1 : Nat) : Int) ∧ k < n ∧ MatL (P + 1) wr G n n (chM n a k) ∧ Hid (zs.length = M) ∧ SRow wr P zs ∧ Below P w wr) (fun _ kv _ => n + 1 - (intOf kv).toNat)
 case atStart => exact ⟨0, G0, zs0, rfl, rfl, hn0, HM0.out, HL, HS3.out, hBP3⟩
 case round =>
  obtain ⟨k, G, zs, rfl, rfl, hkn, hM, hzl, hS, hB⟩ := hrel
  clear hBP3 HM0 HS3 HL
  obtain ⟨U, hU⟩ : ∃ U, U = 4294967296 ^ k := ⟨_, rfl⟩
  have hU1 : Sml (4294967296 * U) := by
   have := sml_pow (k := k + 1) (by omega)
   rw [Nat.pow_succ, ← hU, Nat.mul_comm] at this
   exact this
  have hcm : ∀ i j, i < n → j < n → (chM n a k i j).natAbs ≤ U := fun i j hi hj => by rw [hU]; exact chM_le hn HA.out k i j hi hj
  have HProd := hide (mxProduct_any Ga G n n n a (chM n a k) wr hn0 hn hn hn (HMa.out wr hB) hM.mat 65536 U HA.out hcm (Sml.of64 (by decide)) (hU1.le (by omega)) (hU1.le (by omega)))
  obtain ⟨nx, hnx⟩ : ∃ nx, nx = mulF n a (chM n a k) := ⟨_, rfl⟩
  rw [← hnx] at HProd
  have hnb : ∀ i j, i < n → j < n → (nx i j).natAbs ≤ 2621440 * U := fun i j hi hj => by rw [hnx]; exact mul_le hn HA.out hcm hi hj
  have htb : ∀ t, t ≤ n → (traceV nx t).natAbs ≤ 104857600 * U := fun t ht => by rw [hnx]; exact tr_le hn HA.out hcm ht
  have HTr := hide (fun G2 W (hM2 : Mat W G2 n n nx) => mxTrace_any G2 n nx W hn hM2 (fun i hi => hU1.le (by have := hnb i i hi hi; omega)) (fun i hi => hU1.le (by have := htb i hi; omega)))
  obtain ⟨tr, htr⟩ : ∃ tr, tr = traceV nx n := ⟨_, rfl⟩
  rw [← htr] at HTr
  have htb1 : tr.natAbs ≤ 104857600 * U := by rw [htr]; exact htb n (Nat.le_refl _)
  have HNeg := hide (fun W => iNeg_g tr W (hU1.le (by omega)))
  obtain ⟨K, hK⟩ : ∃ K, K = k + 1 := ⟨_, rfl⟩
  have HOf := hide (fun W => iOf_g K (by omega) W)
  have HDiv := hide (fun W => iDiv_g (-tr) K W (hU1.le (by omega)) (by omega) (by omega))
  have hcb := ediv_le (-tr) K (by omega)
  obtain ⟨c, hc⟩ : ∃ c, c = (-tr) / (K : Int) := ⟨_, rfl⟩
  obtain ⟨r, hr⟩ : ∃ r, r = (-tr) % (K : Int) := ⟨_, rfl⟩
  rw [← hc] at hcb
  rw [← hc, ← hr] at HDiv
  have HSc := hide (fun W => mxScalar_any n c W hn)
  have HSu := hide (fun G2 G4 W (h2 : Mat W G2 n n nx) (h4 : Mat W G4 n n (fun i j => if i = j then c else 0)) => mxSum_any G2 G4 n n nx (fun i j => if i = j then c else 0) W hn0 hn hn h2 h4 (fun i j hi hj => ⟨hU1.le (by have := hnb i j hi hj; omega), hU1.le (by
   have h5 : (if i = j then c else 0 : Int).natAbs ≤ c.natAbs := by split <;> simp
   omega)⟩))
  have HCH := hide (show (fun i j => nx i j + if i = j then c else 0) = chM n a (k + 1) by rw [hc, htr, hK, hnx]; rfl)
  obtain ⟨d, hd⟩ : ∃ d, d = n - K := ⟨_, rfl⟩
  have hdi : (n : Int) - (K : Int) = (d : Int) := by omega
  have hdM : d < M := by have := HM.out; omega
  have hd0 : (0 : Int) ≤ (d : Int) := by omega
  have hd1 : (d : Int) < (M : Int) := by omega
  have HM1 := hide hM
  have HB := hide hB
  have HS := hide hS
  have HK := hide hK
  have HD := hide hd
  rw [← hK]
  clear hM hB hS hU1 hcm hnb htb htr htb1 hcb hc hr hnx hU hK hd
  go_wp2_with fail
  (with_reducible refine HProd.out.mono ?_)
  rintro e w2 ⟨G2, rfl, hM2, hB2⟩
  have HM2 := hide (hM2.mono (show P + 1 ≤ _ from Nat.succ_le_of_lt HS.out.lt))
  have HB2 := hide hB2
  clear hM2 hB2
  go_wp2_with fail
  (with_reducible refine (HTr.out G2 _ HM2.out.mat).mono ?_)
  rintro e w3 ⟨rfl, hB3⟩
  have HB3 := hide hB3
  clear hB3
  go_wp2_with fail
  (with_reducible refine (HNeg.out _).mono ?_)
  rintro e w4 ⟨rfl, hB4⟩
  have HB4 := hide hB4
  clear hB4
  go_wp2_with fail
  (with_reducible refine (HOf.out _).mono ?_)
  rintro e w5 ⟨rfl, hB5⟩
  have HB5 := hide hB5
  clear hB5
  go_wp2_with fail
  (with_reducible refine (HDiv.out _).mono ?_)
  rintro e w6 ⟨rfl, hB6⟩
  have hB26 : Below w2.heap.size w2 w6 := ((HB3.out.trans (HB4.out.mono HB3.out.size)).trans (HB5.out.mono (Nat.le_trans HB3.out.size HB4.out.size))).trans (hB6.mono (Nat.le_trans (Nat.le_trans HB3.out.size HB4.out.size) HB5.out.size))
  have hBr6 : Below wr.heap.size wr w6 := HB2.out.trans (hB26.mono HB2.out.size)
  have hS6 := HS.out.belowS hBr6
  have hl6 : d < zs.length := by rw [hzl.out]; exact hdM
  have y0 := hS6.c0 hl6
  have y1 := hS6.c1 hl6
  have z0 := hS6.free_ (d * 2)
  have z1 := hS6.free_ (d * 2 + 1)
  have hS7 := hS6.set_ hl6 c
  have hB7 : Below P w ((w6.setCell ⟨P, d * 2, none⟩ (.bool (ng c))).setCell ⟨P, d * 2 + 1, none⟩ (.string (mgI c))) := Below.pairG (HB.out.trans (hBr6.mono (Nat.le_of_lt HS.out.lt))) (Nat.le_refl _) _ _ _ _
  have HM6 := hide ((HM2.out.below hB26 (Nat.le_refl _)).other (Nat.lt_succ_self P) (d * 2) (d * 2 + 1) (.bool (ng c)) (.string (mgI c)))
  have HG6 := hide ((HM1.out.below hBr6 (Nat.le_refl _)).other (Nat.lt_succ_self P) (d * 2) (d * 2 + 1) (.bool (ng c)) (.string (mgI c)))
  have HS7 := hide hS7
  have HB7 := hide hB7
  have HL7 := hide (show (zs.set d c).length = M by rw [List.length_set]; exact hzl.out)
  have lP : P < w6.heap.size := hS6.lt
  by_cases hKn : K = n
  ·have hkb : ((K : Int) == (n : Int)) = true := by rw [beq_iff_eq]; omega
   have HKn := hide hKn
   clear hKn hB26 hBr6 hS6 hl6 hS7 hB7 hB6
   go_wp2
   go_ret2
   refine ⟨_, G, rfl, ?_, by rw [HPP.out]; exact HB7.out⟩
   have e1 : n - 1 = k := by have := HK.out; have := HKn.out; omega
   rw [e1]
   exact HG6.out.mat
  ·have hkb : ((K : Int) == (n : Int)) = false := by rw [beq_eq_false_iff_ne]; omega
   have hKlt : K < n := by have := HK.out; omega
   have x0 := hS7.c0 (k := d) (by rw [HL7.out]; exact hdM)
   have x1 := hS7.c1 (k := d) (by rw [HL7.out]; exact hdM)
   have e1 : (zs.set d c).getD d 0 = c := by
    rw [List.getD_eq_getElem?_getD, List.getElem?_set, if_pos rfl, if_pos hl6]; rfl
   rw [e1] at x0 x1
   clear hKn hB26 hBr6 hS6 hl6 hS7 hB7 hB6 e1
   have HS7b := HS7
   go_wp2_with fail
   generalize (w6.setCell ⟨P, d * 2, none⟩ (.bool (ng c))).setCell ⟨P, d * 2 + 1, none⟩ (.string (mgI c)) = w7 at x0 x1 HM6 HG6 HS7 HB7 ⊢
   (with_reducible refine (HSc.out _).mono ?_)
   rintro e w8 ⟨G4, rfl, hM4, hB8⟩
   have HM4 := hide hM4
   have HB8 := hide hB8
   have HSu2 := hide (HSu.out G2 G4 w8 (HM6.out.mat.below hB8 (Nat.le_refl _)) hM4.mat)
   clear hM4 hB8 x0 x1
   go_wp2_with fail
   (with_reducible refine HSu2.out.mono ?_)
   rintro e w9 ⟨G5, rfl, hM5, hB9⟩
   have HM5 := hide (show MatL (P + 1) w9 G5 n n (chM n a (k + 1)) by
    rw [← HCH.out]
    exact hM5.mono (Nat.le_trans (Nat.succ_le_of_lt HS7.out.lt) HB8.out.size))
   have hB79 := HB8.out.trans (hB9.mono HB8.out.size)
   have HS9 := hide (HS7.out.belowS hB79)
   have HB9 := hide (HB7.out.trans (hB79.mono (Nat.le_of_lt HS7.out.lt)))
   clear hM5 hB9 hB79 HS7b
   go_wp2
   go_roundw
   case rel => exact ⟨k + 1, G5, _, rfl, by rw [← HK.out]; go_num, by have := HK.out; omega, HM5.out, HL7, HS9.out, HB9.out⟩
   case measure => simp [intOf]; omega
end
end Go.Proofs.YtbnpjoiojhnimaaGreatDoor
