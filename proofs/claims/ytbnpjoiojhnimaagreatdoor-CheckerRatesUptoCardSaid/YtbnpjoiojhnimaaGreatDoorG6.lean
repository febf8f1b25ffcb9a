import Derived.Test.YtbnpjoiojhnimaaGreatDoorG2
import Derived.Test.YtbnpjoiojhnimaaGreatDoorG5
import Derived.Deep.RegionHeld3
import Derived.IntWalk
import Derived.BigQuiet
import Derived.RangeFuncCalls
import Derived.RangeFuncRecord
import Derived.Test.YtbnpjoiojhnimaaGreatDoorG3
set_option linter.unusedSimpArgs false
set_option linter.unusedVariables false
/- slices.Compare of ints, graph.list, by, Check: their contracts. -/
namespace Go.Proofs.YtbnpjoiojhnimaaGreatDoor
open Go.RowKit
def cmpLI : List Int → List Int → Int
 | [], [] => 0
 | [], _ :: _ => -1
 | _ :: _, [] => 1
 | x :: xs, y :: ys => if x < y then -1 else if y < x then 1 else cmpLI xs ys
structure Edg where
 f : Int
 l : Int
 t : Int
def Edg.list (e : Edg) : List Int := [e.f, e.l, e.t]
def Edg.cmp (a b : Edg) : Int := cmpLI a.list b.list
theorem cmpLI_drop (xs ys : List Int) (k : Nat) (h : ∀ j (h1 : j < xs.length) (h2 : j < ys.length), j < k → xs[j] = ys[j]) (hx : k ≤ xs.length) (hy : k ≤ ys.length) : cmpLI xs ys = cmpLI (xs.drop k) (ys.drop k) := by
 induction k generalizing xs ys with
 | zero => simp
 | succ k ih =>
  cases xs with
  | nil => simp at hx
  | cons x xs =>
   cases ys with
   | nil => simp at hy
   | cons y ys =>
    have h0 := h 0 (by simp) (by simp) (by omega)
    simp at h0
    subst h0
    have := ih xs ys (fun j h1 h2 hj => by have := h (j + 1) (by simpa using h1) (by simpa using h2) (by omega); simpa using this) (by simpa using hx) (by simpa using hy)
    simp only [cmpLI, Int.lt_irrefl, if_false, List.drop_succ_cons]
    exact this
set_option maxRecDepth 100000 in
set_option maxHeartbeats 2000000 in
theorem slCompareI_any (xs ys : List Int) (A A' : Option Addr) (c c' : Nat) (w : World) (h1 : RowI w A xs) (h2 : RowI w A' ys) (hb : xs.length ≤ 4294967296) (hb' : ys.length ≤ 4294967296) :
  Calls Tryz.prog 126 #[.slice A xs.length c, .slice A' ys.length c'] w fun e w' => e = .returned (.int .i64 (cmpLI xs ys)) ∧ w = w' := by
 have H1 := hide h1
 have H2 := hide h2
 clear h1 h2
 have HC := hide (fun x y W => cmp_Compare_int x y W)
 go_enter Tryz.func126, Tryz.ntmps126
 go_wp2
 go_loopw [11] (fun iv wr => ∃ i : Nat, iv = .int .i64 i ∧ i ≤ xs.length ∧ i ≤ ys.length ∧ Hid (∀ j (h1 : j < xs.length) (h2 : j < ys.length), j < i → xs[j] = ys[j]) ∧ wr = w) (fun iv _ => xs.length - (intOf iv).toNat)
 case atStart => exact ⟨0, rfl, Nat.zero_le _, Nat.zero_le _, hide fun j _ _ h => absurd h (by omega), rfl⟩
 case round =>
  obtain ⟨i, rfl, hi, hi', hJ, rfl⟩ := hrel
  have HD := hide (cmpLI_drop xs ys i hJ.out hi hi')
  by_cases hlt : i < xs.length
  ·obtain ⟨b, o, rfl, hbl, hcell⟩ := H1.out (by omega)
   have cx := hcell i hlt
   have hi0 : (0 : Int) ≤ (i : Int) := by omega
   have hi1 : (i : Int) < (xs.length : Int) := by omega
   by_cases hlt2 : i < ys.length
   ·obtain ⟨b', o', rfl, hbl', hcell'⟩ := H2.out (by omega)
    have cy := hcell' i hlt2
    have hj1 : (i : Int) < (ys.length : Int) := by omega
    have HX := hide (List.drop_eq_getElem_cons hlt)
    have HY := hide (List.drop_eq_getElem_cons hlt2)
    obtain ⟨x, hx⟩ : ∃ x, xs[i] = x := ⟨_, rfl⟩
    obtain ⟨y, hy⟩ : ∃ y, ys[i] = y := ⟨_, rfl⟩
    rw [hx] at cx HX
    rw [hy] at cy HY
    have HJ2 := hide (fun (hxy : x = y) => show ∀ j (h1 : j < xs.length) (h2 : j < ys.length), j < i + 1 → xs[j] = ys[j] from fun j h1 h2 hj => by
     rcases Nat.lt_or_ge j i with h | h
     ·exact hJ.out j h1 h2 h
     ·obtain rfl : j = i := by omega
      rw [hx, hy, hxy])
    clear hcell hcell' hx hy hJ
    rcases Int.lt_trichotomy x y with hxy | hxy | hxy
    ·have HCC := hide (HC.out x y wr)
     rw [show Lib.compareInt x y = -1 by unfold Lib.compareInt; rw [if_pos hxy]] at HCC
     have HV := hide (show cmpLI xs ys = -1 by rw [HD.out, HX.out, HY.out]; simp only [cmpLI]; rw [if_pos hxy])
     clear hxy
     go_wp2_with fail
     (with_reducible refine HCC.out.mono ?_)
     rintro e w1 ⟨rfl, rfl⟩
     go_wp2
     go_ret
     exact ⟨by rw [HV.out]; rfl, rfl⟩
    ·have HCC := hide (HC.out x y wr)
     rw [show Lib.compareInt x y = 0 by unfold Lib.compareInt; rw [if_neg (by omega), if_neg (by omega)]] at HCC
     have HJ3 := hide (HJ2.out hxy)
     clear hxy HJ2
     go_wp2_with fail
     (with_reducible refine HCC.out.mono ?_)
     rintro e w1 ⟨rfl, rfl⟩
     go_wp2
     go_roundw
     case rel => exact ⟨i + 1, by go_num, hlt, hlt2, HJ3, by first | exact trivial | rfl⟩
     case measure => simp [intOf]; omega
    ·have HCC := hide (HC.out x y wr)
     rw [show Lib.compareInt x y = 1 by unfold Lib.compareInt; rw [if_neg (by omega), if_pos hxy]] at HCC
     have HV := hide (show cmpLI xs ys = 1 by rw [HD.out, HX.out, HY.out]; simp only [cmpLI]; rw [if_neg (by omega), if_pos hxy])
     clear hxy
     go_wp2_with fail
     (with_reducible refine HCC.out.mono ?_)
     rintro e w1 ⟨rfl, rfl⟩
     go_wp2
     go_ret
     exact ⟨by rw [HV.out]; rfl, rfl⟩
   ·obtain rfl : i = ys.length := by omega
    have HX := hide (List.drop_eq_getElem_cons hlt)
    have HV := hide (show cmpLI xs ys = 1 by rw [HD.out, HX.out, List.drop_length]; rfl)
    clear hcell
    go_wp2
    go_ret
    exact ⟨by rw [HV.out]; rfl, rfl⟩
  ·obtain rfl : i = xs.length := by omega
   by_cases hlt2 : xs.length < ys.length
   ·have HV := hide (show cmpLI xs ys = -1 by rw [HD.out, List.drop_length, List.drop_eq_getElem_cons hlt2]; rfl)
    go_wp2
    go_ret
    exact ⟨by rw [HV.out]; rfl, rfl⟩
   ·have he : xs.length = ys.length := by omega
    have HV := hide (show cmpLI xs ys = 0 by rw [HD.out, List.drop_length, he, List.drop_length]; rfl)
    clear he
    go_wp2
    go_ret
    exact ⟨by rw [HV.out]; rfl, rfl⟩
set_option maxRecDepth 100000 in
set_option maxHeartbeats 1000000 in
theorem grList_any (e : Edg) (w : World) :
  Calls Tryz.prog 80 #[.agg #[.int .i64 e.f, .int .i64 e.l, .int .i64 e.t]] w fun en w' => en = .returned (.slice (some ⟨w.heap.size + 1, 0, none⟩) 3 3) ∧ w' = (w.alloc (.cells #[.int .i64 e.f, .int .i64 e.l, .int .i64 e.t] 72)).alloc (.cells #[.int .i64 e.f, .int .i64 e.l, .int .i64 e.t] 3) := by
 go_enter Tryz.func80, Tryz.ntmps80
 go_wp2
 go_ret
 exact ⟨rfl, rfl⟩
set_option maxRecDepth 100000 in
set_option maxHeartbeats 1000000 in
theorem grBy_any (w : World) :
  Calls Tryz.prog 79 #[.func (.func 80) #[] #[]] w fun en w' => en = .returned (.func (.func 125) #[] #[.pointer (some ⟨w.heap.size, 0, none⟩)]) ∧ w' = w.alloc (.cells #[.func (.func 80) #[] #[]] 120) := by
 go_enter Tryz.func79, Tryz.ntmps79
 go_wp2
 go_ret
 exact ⟨rfl, rfl⟩
theorem grList_b (e : Edg) (w : World) :
  Calls Tryz.prog 80 #[.agg #[.int .i64 e.f, .int .i64 e.l, .int .i64 e.t]] w fun en w' => ∃ g, en = .returned (.slice (some ⟨g, 0, none⟩) 3 3) ∧ RowI w' (some ⟨g, 0, none⟩) e.list ∧ Below w.heap.size w w' := by
 refine (grList_any e w).mono ?_
 rintro en w' ⟨rfl, rfl⟩
 refine ⟨_, rfl, fun _ => ⟨w.heap.size + 1, 0, rfl, by simp, fun k hk => ?_⟩, ((Below.refl _ w).alloc (Nat.le_refl _) _).alloc (by simp) _⟩
 have h := heap_alloc_new (w.alloc (.cells #[.int .i64 e.f, .int .i64 e.l, .int .i64 e.t] 72)) (.cells #[.int .i64 e.f, .int .i64 e.l, .int .i64 e.t] 3)
 rw [World.size_alloc] at h
 rw [Nat.zero_add, cell_of_row _ _ k _ 3 (0, 0) h]
 have hk3 : k < 3 := hk
 have : k = 0 ∨ k = 1 ∨ k = 2 := by omega
 rcases this with rfl | rfl | rfl <;> rfl
theorem slCompare3 (a b : Edg) (A A' : Option Addr) (w : World) (h1 : RowI w A a.list) (h2 : RowI w A' b.list) :
  Calls Tryz.prog 126 #[.slice A 3 3, .slice A' 3 3] w fun e w' => e = .returned (.int .i64 (a.cmp b)) ∧ w = w' := slCompareI_any a.list b.list A A' 3 3 w h1 h2 (show 3 ≤ 4294967296 by decide) (show 3 ≤ 4294967296 by decide)
set_option maxRecDepth 100000 in
set_option maxHeartbeats 2000000 in
theorem grByf_any (a b : Edg) (c : Nat) (w : World) (hc : w.cell? ⟨c, 0, none⟩ = some (.func (.func 80) #[] #[])) :
  Calls Tryz.prog 125 #[.agg #[.int .i64 a.f, .int .i64 a.l, .int .i64 a.t], .agg #[.int .i64 b.f, .int .i64 b.l, .int .i64 b.t], .pointer (some ⟨c, 0, none⟩)] w fun en w' => en = .returned (.int .i64 (a.cmp b)) ∧ Below w.heap.size w w' := by
 have hB0 : Below w.heap.size w ((w.alloc (.cells #[.int .i64 a.f, .int .i64 a.l, .int .i64 a.t] 72)).alloc (.cells #[.int .i64 b.f, .int .i64 b.l, .int .i64 b.t] 72)) := ((Below.refl _ w).alloc (Nat.le_refl _) _).alloc (by simp) _
 have hs0 : ((w.alloc (.cells #[.int .i64 a.f, .int .i64 a.l, .int .i64 a.t] 72)).alloc (.cells #[.int .i64 b.f, .int .i64 b.l, .int .i64 b.t] 72)).heap.size = w.heap.size + 1 + 1 := by simp
 have ha : ((w.alloc (.cells #[.int .i64 a.f, .int .i64 a.l, .int .i64 a.t] 72)).alloc (.cells #[.int .i64 b.f, .int .i64 b.l, .int .i64 b.t] 72)).heap[w.heap.size]? = some (.cells #[.int .i64 a.f, .int .i64 a.l, .int .i64 a.t] 72 (0, 0)) := by
  rw [Below.heap_alloc _ _ _ (by simp)]; exact heap_alloc_new w _
 have hb : ((w.alloc (.cells #[.int .i64 a.f, .int .i64 a.l, .int .i64 a.t] 72)).alloc (.cells #[.int .i64 b.f, .int .i64 b.l, .int .i64 b.t] 72)).heap[w.heap.size + 1]? = some (.cells #[.int .i64 b.f, .int .i64 b.l, .int .i64 b.t] 72 (0, 0)) := by
  have := heap_alloc_new (w.alloc (.cells #[.int .i64 a.f, .int .i64 a.l, .int .i64 a.t] 72)) (.cells #[.int .i64 b.f, .int .i64 b.l, .int .i64 b.t] 72)
  rw [World.size_alloc] at this
  exact this
 have hcc := (hB0.cell (p := ⟨c, 0, none⟩) (World.block_lt_of_cell? w _ hc)).trans hc
 obtain ⟨Z, hZ⟩ : ∃ Z, w.heap.size = Z := ⟨_, rfl⟩
 have hcl : c < Z := by rw [← hZ]; exact World.block_lt_of_cell? w _ hc
 rw [hZ] at hB0 hs0 ha hb
 have HZ := hide hZ
 have HL := hide (fun e W => grList_b e W)
 have HC := hide (fun A A' W h1 h2 => slCompare3 a b A A' W h1 h2)
 clear hc hZ
 go_enter Tryz.func125, Tryz.ntmps125
 go_wp2_with fail
 try rw [HZ.out]
 generalize (w.alloc (.cells #[.int .i64 a.f, .int .i64 a.l, .int .i64 a.t] 72)).alloc (.cells #[.int .i64 b.f, .int .i64 b.l, .int .i64 b.t] 72) = W0 at hB0 hs0 ha hb hcc ⊢
 have hall := hide (show ∀ W, Below W0.heap.size W0 W → W.cell? ⟨c, 0, none⟩ = some (.func (.func 80) #[] #[]) ∧ W.cell? ⟨Z, 0, none⟩ = some (.int .i64 a.f) ∧ W.cell? ⟨Z, 1, none⟩ = some (.int .i64 a.l) ∧ W.cell? ⟨Z, 2, none⟩ = some (.int .i64 a.t) ∧ W.cell? ⟨Z + 1, 0, none⟩ = some (.int .i64 b.f) ∧ W.cell? ⟨Z + 1, 1, none⟩ = some (.int .i64 b.l) ∧ W.cell? ⟨Z + 1, 2, none⟩ = some (.int .i64 b.t) from fun W hW => by
  have l0 : Z < W0.heap.size := by omega
  have l1 : Z + 1 < W0.heap.size := by omega
  refine ⟨(hW.cell (p := ⟨c, 0, none⟩) (by show c < _; omega)).trans hcc, (hW.cell (p := ⟨Z, 0, none⟩) l0).trans ?_, (hW.cell (p := ⟨Z, 1, none⟩) l0).trans ?_, (hW.cell (p := ⟨Z, 2, none⟩) l0).trans ?_, (hW.cell (p := ⟨Z + 1, 0, none⟩) l1).trans ?_, (hW.cell (p := ⟨Z + 1, 1, none⟩) l1).trans ?_, (hW.cell (p := ⟨Z + 1, 2, none⟩) l1).trans ?_⟩
  ·rw [cell_of_row _ _ 0 _ 72 (0, 0) ha]; rfl
  ·rw [cell_of_row _ _ 1 _ 72 (0, 0) ha]; rfl
  ·rw [cell_of_row _ _ 2 _ 72 (0, 0) ha]; rfl
  ·rw [cell_of_row _ _ 0 _ 72 (0, 0) hb]; rfl
  ·rw [cell_of_row _ _ 1 _ 72 (0, 0) hb]; rfl
  ·rw [cell_of_row _ _ 2 _ 72 (0, 0) hb]; rfl)
 have hAcc : Below W0.heap.size W0 W0.drew := (Below.refl _ _).drew
 clear ha hb hcc
 have tok : True := trivial
 go_region_held3 (fun W => W.cell? ⟨c, 0, none⟩ = some (.func (.func 80) #[] #[]) ∧ W.cell? ⟨Z, 0, none⟩ = some (.int .i64 a.f) ∧ W.cell? ⟨Z, 1, none⟩ = some (.int .i64 a.l) ∧ W.cell? ⟨Z, 2, none⟩ = some (.int .i64 a.t) ∧ W.cell? ⟨Z + 1, 0, none⟩ = some (.int .i64 b.f) ∧ W.cell? ⟨Z + 1, 1, none⟩ = some (.int .i64 b.l) ∧ W.cell? ⟨Z + 1, 2, none⟩ = some (.int .i64 b.t))
  (with_reducible exact hall.out _ hAcc)
  (first
   | (go_at_call 80; have t2 := tok; (with_reducible refine (HL.out a _).mono ?_); rintro e w1 ⟨g1, rfl, hr1, hB1⟩; clear tok; have tok2 := t2; replace hAcc := hAcc.trans (hB1.mono hAcc.size))
   | (go_at_call 80; have t3 := tok2; (with_reducible refine (HL.out b _).mono ?_); rintro e w2 ⟨g2, rfl, hr2, hB2⟩; replace hr1 := hr1.below hB2; replace hAcc := hAcc.trans (hB2.mono hAcc.size))
   | (go_at_call 126; (with_reducible refine (HC.out _ _ _ hr1 hr2).mono ?_); rintro e w3 ⟨rfl, rfl⟩))
 all_goals (
  go_wp2
  go_ret
  exact ⟨rfl, by rw [HZ.out]; exact hB0.trans (hAcc.mono (by omega))⟩)
def RowE (w : World) (A : Option Addr) (es : List Edg) : Prop := 0 < es.length → ∃ b o, A = some ⟨b, o, none⟩ ∧ b < w.heap.size ∧ ∀ k (hk : k < es.length), w.cell? ⟨b, o + k * 3, none⟩ = some (.int .i64 es[k].f) ∧ w.cell? ⟨b, o + k * 3 + 1, none⟩ = some (.int .i64 es[k].l) ∧ w.cell? ⟨b, o + k * 3 + 2, none⟩ = some (.int .i64 es[k].t)
theorem RowE.below {w w' : World} {A : Option Addr} {es : List Edg} (h : RowE w A es) (hB : Below w.heap.size w w') : RowE w' A es := by
 intro h0
 obtain ⟨b, o, h1, h2, h3⟩ := h h0
 exact ⟨b, o, h1, Nat.lt_of_lt_of_le h2 hB.size, fun k hk => ⟨(hB.cell (p := ⟨b, o + k * 3, none⟩) h2).trans (h3 k hk).1, (hB.cell (p := ⟨b, o + k * 3 + 1, none⟩) h2).trans (h3 k hk).2.1, (hB.cell (p := ⟨b, o + k * 3 + 2, none⟩) h2).trans (h3 k hk).2.2⟩⟩
theorem min3_is {x y z mn : Int} (h : mn = if z < (if y < x then y else x) then z else (if y < x then y else x)) (ts : Array TypeId) (t : TypeId) (W : World) : (Builtin.min_ ts t #[.int .i64 x, .int .i64 y, .int .i64 z]).run Tryz.prog W = .ok (.int .i64 mn) W := by
 subst h; simp [Builtin.min_, Builtin.min2]
def okE (L S : Int) (e : Edg) : Bool := decide (0 ≤ e.f) && decide (0 ≤ e.l) && decide (0 ≤ e.t) && decide (e.f < S) && decide (e.t < S) && decide (e.l < L)
def okAt (L S : Int) (es : List Edg) (k : Nat) : Bool := match es[k]? with | some e => okE L S e && (match k with | 0 => true | j + 1 => match es[j]? with | some d => decide (d.cmp e < 0) | none => true) | none => true
def okG (L S : Int) (es : List Edg) : Bool := decide (1 ≤ L) && decide (L ≤ 256) && decide (0 ≤ S) && decide (S ≤ 64) && decide (es.length ≤ 1024) && (List.range es.length).all (okAt L S es)
set_option maxRecDepth 100000 in
set_option maxHeartbeats 4000000 in
theorem grCheck_go (L S : Int) (es : List Edg) (A : Option Addr) (c : Nat) (w : World) (hL : 1 ≤ L ∧ L ≤ 256) (hS : 0 ≤ S ∧ S ≤ 64) (hl : es.length ≤ 1024) (hr : RowE w A es) :
  Calls Tryz.prog 26 #[.agg #[.int .i64 L, .int .i64 S, .slice A es.length c]] w fun e w' => ∃ r : Int, e = .returned (.int .i64 r) ∧ (r == 0) = (List.range es.length).all (okAt L S es) ∧ Below w.heap.size w w' := by
 obtain ⟨hL1, hL2⟩ := hL
 obtain ⟨hS1, hS2⟩ := hS
 have HBy := hide (fun W => grBy_any W)
 have hB0 : Below w.heap.size w (w.alloc (.cells #[.int .i64 L, .int .i64 S, .slice A es.length c] 24)) := (Below.refl _ w).alloc (Nat.le_refl _) _
 have hb0 : (w.alloc (.cells #[.int .i64 L, .int .i64 S, .slice A es.length c] 24)).heap[w.heap.size]? = some (.cells #[.int .i64 L, .int .i64 S, .slice A es.length c] 24 (0, 0)) := heap_alloc_new w _
 have hz0 : (w.alloc (.cells #[.int .i64 L, .int .i64 S, .slice A es.length c] 24)).heap.size = w.heap.size + 1 := by simp
 obtain ⟨Z, hZ⟩ : ∃ Z, w.heap.size = Z := ⟨_, rfl⟩
 rw [hZ] at hB0 hb0 hz0
 have HZ := hide hZ
 have HR := hide (fun W (hB : Below Z w W) => hr.below (hB.mono (Nat.le_of_eq hZ)))
 clear hr hZ
 go_enter Tryz.func26, Tryz.ntmps26
 go_wp2_with fail
 try rw [HZ.out]
 generalize w.alloc (.cells #[.int .i64 L, .int .i64 S, .slice A es.length c] 24) = W0 at hB0 hb0 hz0 ⊢
 (with_reducible refine (HBy.out _).mono ?_)
 rintro e w1 ⟨rfl, rfl⟩
 have hB1 : Below Z w (W0.alloc (.cells #[.func (.func 80) #[] #[]] 120)) := hB0.trans ((Below.refl _ W0).alloc (by omega) _)
 have hb1 : (W0.alloc (.cells #[.func (.func 80) #[] #[]] 120)).heap[Z]? = some (.cells #[.int .i64 L, .int .i64 S, .slice A es.length c] 24 (0, 0)) := (Below.heap_alloc _ _ _ (by omega)).trans hb0
 have hc1 : (W0.alloc (.cells #[.func (.func 80) #[] #[]] 120)).cell? ⟨Z + 1, 0, none⟩ = some (.func (.func 80) #[] #[]) := by
  have := heap_alloc_new W0 (.cells #[.func (.func 80) #[] #[]] 120)
  rw [hz0] at this
  exact cell_of_one this
 have hz1 : (W0.alloc (.cells #[.func (.func 80) #[] #[]] 120)).heap.size = Z + 1 + 1 := by simp [hz0]
 rw [hz0]
 generalize W0.alloc (.cells #[.func (.func 80) #[] #[]] 120) = W1 at hB1 hb1 hc1 hz1 ⊢
 have g0 : W1.cell? ⟨Z, 0, none⟩ = some (.int .i64 L) := by rw [cell_of_row _ _ 0 _ 24 (0, 0) hb1]; rfl
 have g1 : W1.cell? ⟨Z, 1, none⟩ = some (.int .i64 S) := by rw [cell_of_row _ _ 1 _ 24 (0, 0) hb1]; rfl
 have g2 : W1.cell? ⟨Z, 2, none⟩ = some (.slice A es.length c) := by rw [cell_of_row _ _ 2 _ 24 (0, 0) hb1]; rfl
 have HB1 := hide hB1
 have HZ1 := hide hz1
 clear hB0 hb0 hz0 HBy hB1 hb1 hz1
 go_wp2
 go_loopw [33] (fun iv wr => ∃ k : Nat, iv = .int .i64 k ∧ k ≤ es.length ∧ Hid (∀ j, j < k → okAt L S es j = true) ∧ Below (Z + 1 + 1) W1 wr) (fun iv _ => es.length - (intOf iv).toNat)
 case atStart => exact ⟨0, rfl, Nat.zero_le _, hide fun j h => absurd h (by omega), Below.refl _ _⟩
 case round =>
  obtain ⟨k, rfl, hk, hJ, hB⟩ := hrel
  have hBw : Below Z w wr := HB1.out.trans (hB.mono (by omega))
  have hsz : Z + 1 + 1 ≤ wr.heap.size := by rw [← HZ1.out]; exact hB.size
  have e0 := (hB.cell (p := ⟨Z, 0, none⟩) (by show Z < _; omega)).trans g0
  have e1 := (hB.cell (p := ⟨Z, 1, none⟩) (by show Z < _; omega)).trans g1
  have e2 := (hB.cell (p := ⟨Z, 2, none⟩) (by show Z < _; omega)).trans g2
  have ec := (hB.cell (p := ⟨Z + 1, 0, none⟩) (by show Z + 1 < _; omega)).trans hc1
  clear g0 g1 g2 hc1
  by_cases hlt : k < es.length
  ·obtain ⟨b, o, rfl, hbl, hcell⟩ := HR.out wr hBw (by omega)
   obtain ⟨a0, a1, a2⟩ := hcell k hlt
   have hk0 : (0 : Int) ≤ (k : Int) := by omega
   have hk1 : (k : Int) < (es.length : Int) := by omega
   have HE := hide (show es[k]? = some es[k] from List.getElem?_eq_getElem hlt)
   obtain ⟨e, he⟩ : ∃ e, es[k] = e := ⟨_, rfl⟩
   rw [he] at a0 a1 a2 HE
   have HFail := hide (fun (h : okAt L S es k = false) => show (List.range es.length).all (okAt L S es) = false by
    rw [List.all_eq_false]
    exact ⟨k, List.mem_range.2 hlt, by rw [h]; simp⟩)
   have HX := hide (show ∀ W, Below wr.heap.size wr W → W.cell? ⟨Z, 0, none⟩ = some (.int .i64 L) ∧ W.cell? ⟨Z, 1, none⟩ = some (.int .i64 S) ∧ W.cell? ⟨Z, 2, none⟩ = some (.slice (some ⟨b, o, none⟩) es.length c) ∧ W.cell? ⟨Z + 1, 0, none⟩ = some (.func (.func 80) #[] #[]) from fun W hW =>
    ⟨(hW.cell (p := ⟨Z, 0, none⟩) (by show Z < _; omega)).trans e0, (hW.cell (p := ⟨Z, 1, none⟩) (by show Z < _; omega)).trans e1, (hW.cell (p := ⟨Z, 2, none⟩) (by show Z < _; omega)).trans e2, (hW.cell (p := ⟨Z + 1, 0, none⟩) (by show Z + 1 < _; omega)).trans ec⟩)
   have hA : Below wr.heap.size wr (wr.alloc (.cells #[.int .i64 e.f, .int .i64 e.l, .int .i64 e.t] 72)) := (Below.refl _ wr).alloc (Nat.le_refl _) _
   obtain ⟨f0, f1, f2, fc⟩ := HX.out _ hA
   have HB := hide hB
   have HBw := hide hBw
   have HCell := hide hcell
   clear hcell he hB hBw e0 e1 e2 ec
   obtain ⟨mn, hmn⟩ : ∃ mn, mn = if e.t < (if e.l < e.f then e.l else e.f) then e.t else (if e.l < e.f then e.l else e.f) := ⟨_, rfl⟩
   obtain ⟨mx, hmx⟩ : ∃ mx, max e.f e.t = mx := ⟨_, rfl⟩
   have hm3 := min3_is hmn
   have HMN := hide (show mn < 0 ↔ ¬ (0 ≤ e.f ∧ 0 ≤ e.l ∧ 0 ≤ e.t) by rw [hmn]; (repeat' split) <;> omega)
   have HMX := hide (show S ≤ mx ↔ ¬ (e.f < S ∧ e.t < S) by rw [← hmx]; omega)
   clear hmn
   by_cases hok : okE L S e = true
   ·have hok2 := hok
    unfold okE at hok2
    simp only [Bool.and_eq_true, decide_eq_true_eq] at hok2
    obtain ⟨⟨⟨⟨⟨p0, p1⟩, p2⟩, p3⟩, p4⟩, p5⟩ := hok2
    have HOK := hide hok
    have q0 : decide (mn < 0) = false := decide_eq_false (fun h => HMN.out.1 h ⟨p0, p1, p2⟩)
    have q1 : decide (S ≤ mx) = false := decide_eq_false (fun h => HMX.out.1 h ⟨p3, p4⟩)
    have q2 : decide (L ≤ e.l) = false := decide_eq_false (by omega)
    clear hok p0 p1 p2 p3 p4 p5
    go_wp2_with fail
    have hx := heap_alloc_new wr (.cells #[.int .i64 e.f, .int .i64 e.l, .int .i64 e.t] 72)
    have hBx := HBw.out.trans (hA.mono (show Z ≤ _ by omega))
    have hB2x := HB.out.trans (hA.mono hsz)
    have hblx : b < (wr.alloc (.cells #[.int .i64 e.f, .int .i64 e.l, .int .i64 e.t] 72)).heap.size := Nat.lt_of_lt_of_le hbl hA.size
    have hxs : (wr.alloc (.cells #[.int .i64 e.f, .int .i64 e.l, .int .i64 e.t] 72)).heap.size = wr.heap.size + 1 := by simp
    have hcx := hide (show ∀ j (hj : j < es.length), (wr.alloc (.cells #[.int .i64 e.f, .int .i64 e.l, .int .i64 e.t] 72)).cell? ⟨b, o + j * 3, none⟩ = some (.int .i64 es[j].f) ∧ (wr.alloc (.cells #[.int .i64 e.f, .int .i64 e.l, .int .i64 e.t] 72)).cell? ⟨b, o + j * 3 + 1, none⟩ = some (.int .i64 es[j].l) ∧ (wr.alloc (.cells #[.int .i64 e.f, .int .i64 e.l, .int .i64 e.t] 72)).cell? ⟨b, o + j * 3 + 2, none⟩ = some (.int .i64 es[j].t) from fun j hj =>
     ⟨(hA.cell (p := ⟨b, o + j * 3, none⟩) hbl).trans (HCell.out j hj).1, (hA.cell (p := ⟨b, o + j * 3 + 1, none⟩) hbl).trans (HCell.out j hj).2.1, (hA.cell (p := ⟨b, o + j * 3 + 2, none⟩) hbl).trans (HCell.out j hj).2.2⟩)
    obtain ⟨X, hXX⟩ : ∃ X, wr.heap.size = X := ⟨_, rfl⟩
    rw [hXX] at hx hxs hsz ⊢
    have x0 : (wr.alloc (.cells #[.int .i64 e.f, .int .i64 e.l, .int .i64 e.t] 72)).cell? ⟨X, 0, none⟩ = some (.int .i64 e.f) := by rw [cell_of_row _ _ 0 _ 72 (0, 0) hx]; rfl
    have x1 : (wr.alloc (.cells #[.int .i64 e.f, .int .i64 e.l, .int .i64 e.t] 72)).cell? ⟨X, 1, none⟩ = some (.int .i64 e.l) := by rw [cell_of_row _ _ 1 _ 72 (0, 0) hx]; rfl
    have x2 : (wr.alloc (.cells #[.int .i64 e.f, .int .i64 e.l, .int .i64 e.t] 72)).cell? ⟨X, 2, none⟩ = some (.int .i64 e.t) := by rw [cell_of_row _ _ 2 _ 72 (0, 0) hx]; rfl
    generalize wr.alloc (.cells #[.int .i64 e.f, .int .i64 e.l, .int .i64 e.t] 72) = Wx at f0 f1 f2 fc hx hBx hB2x hblx hxs hcx x0 x1 x2 ⊢
    clear hA HCell HX hXX
    rcases Nat.eq_zero_or_pos k with hk00 | hk00
    ·have hkd : decide (0 < k) = false := decide_eq_false (by omega)
     have HK := hide hk00
     have HNext := hide (show ∀ j, j < k + 1 → okAt L S es j = true from fun j hj => by
      rcases Nat.lt_or_ge j k with h | h
      ·exact hJ.out j h
      ·obtain rfl : j = k := by omega
       unfold okAt
       rw [HE.out]
       simp only
       rw [HOK.out, Bool.true_and, HK.out])
     have HB2 := hide hB2x
     clear hk00 hJ hB2x hBx hcx hx
     go_quiet (fail)
     go_wp2
     go_roundw
     case rel => exact ⟨k + 1, by go_num, hlt, HNext, belowN HB2.out _⟩
     case measure => simp [intOf]; omega
    ·have hkd : decide (0 < k) = true := decide_eq_true (by omega)
     obtain ⟨j, hj⟩ : ∃ j, k = j + 1 := ⟨k - 1, by omega⟩
     have hjl : j < es.length := by omega
     obtain ⟨y0, y1, y2⟩ := hcx.out j hjl
     have HD := hide (show es[j]? = some es[j] from List.getElem?_eq_getElem hjl)
     obtain ⟨d, hd⟩ : ∃ d, es[j] = d := ⟨_, rfl⟩
     rw [hd] at y0 y1 y2 HD
     have hj0 : (0 : Int) ≤ (j : Int) := by omega
     have hj1 : (j : Int) < (es.length : Int) := by omega
     have hwr : IntKind.i64.wrap ((k : Int) - 1) = (j : Int) := by rw [IntWalk.i64_in _ (by omega)]; omega
     have hall := hide (show ∀ W, Below Wx.heap.size Wx W → W.cell? ⟨Z, 2, none⟩ = some (.slice (some ⟨b, o, none⟩) es.length c) ∧ W.cell? ⟨b, o + j * 3, none⟩ = some (.int .i64 d.f) ∧ W.cell? ⟨b, o + j * 3 + 1, none⟩ = some (.int .i64 d.l) ∧ W.cell? ⟨b, o + j * 3 + 2, none⟩ = some (.int .i64 d.t) ∧ W.cell? ⟨X, 0, none⟩ = some (.int .i64 e.f) ∧ W.cell? ⟨X, 1, none⟩ = some (.int .i64 e.l) ∧ W.cell? ⟨X, 2, none⟩ = some (.int .i64 e.t) from fun W hW =>
      ⟨(hW.cell (p := ⟨Z, 2, none⟩) (by show Z < _; omega)).trans f2, (hW.cell (p := ⟨b, o + j * 3, none⟩) hblx).trans y0, (hW.cell (p := ⟨b, o + j * 3 + 1, none⟩) hblx).trans y1, (hW.cell (p := ⟨b, o + j * 3 + 2, none⟩) hblx).trans y2, (hW.cell (p := ⟨X, 0, none⟩) (by show X < _; omega)).trans x0, (hW.cell (p := ⟨X, 1, none⟩) (by show X < _; omega)).trans x1, (hW.cell (p := ⟨X, 2, none⟩) (by show X < _; omega)).trans x2⟩)
     have hAcc : Below Wx.heap.size Wx Wx.drew := (Below.refl _ _).drew
     have fcd : Wx.drew.cell? ⟨Z + 1, 0, none⟩ = some (.func (.func 80) #[] #[]) := fc
     have HBf := hide (grByf_any d e (Z + 1) Wx.drew fcd)
     have HK := hide hj
     have HBx := hide hBx
     have HB2x := hide hB2x
     have hXl : Z + 1 + 1 ≤ Wx.heap.size := by omega
     have HEx := hide (show okAt L S es k = decide (d.cmp e < 0) by
      unfold okAt
      rw [HE.out]
      simp only
      rw [HOK.out, Bool.true_and, HK.out]
      simp only [HD.out])
     obtain ⟨z, hz⟩ : ∃ z, d.cmp e = z := ⟨_, rfl⟩
     rw [hz] at HBf HEx
     clear hk00 hj hx hcx x0 x1 x2 y0 y1 y2 f0 f1 f2 fc fcd hd hz hBx hB2x hblx
     by_cases hzn : z < 0
     ·have hzd : decide (0 ≤ z) = false := decide_eq_false (by omega)
      have HNext := hide (show ∀ i, i < k + 1 → okAt L S es i = true from fun i hi => by
       rcases Nat.lt_or_ge i k with h | h
       ·exact hJ.out i h
       ·obtain rfl : i = k := by omega
        rw [HEx.out]; exact decide_eq_true hzn)
      clear hzn hJ
      go_region_held3 (fun W => W.cell? ⟨Z, 2, none⟩ = some (.slice (some ⟨b, o, none⟩) es.length c) ∧ W.cell? ⟨b, o + j * 3, none⟩ = some (.int .i64 d.f) ∧ W.cell? ⟨b, o + j * 3 + 1, none⟩ = some (.int .i64 d.l) ∧ W.cell? ⟨b, o + j * 3 + 2, none⟩ = some (.int .i64 d.t) ∧ W.cell? ⟨X, 0, none⟩ = some (.int .i64 e.f) ∧ W.cell? ⟨X, 1, none⟩ = some (.int .i64 e.l) ∧ W.cell? ⟨X, 2, none⟩ = some (.int .i64 e.t))
       (with_reducible exact hall.out _ hAcc)
       (first | (go_at_call 125; (with_reducible refine HBf.out.mono ?_); rintro en w2 ⟨rfl, hB2⟩; replace hAcc := hAcc.trans hB2))
      all_goals (
       have HB3 := hide (HB2x.out.trans (hAcc.mono hXl))
       clear hAcc
       go_wp2
       go_roundw
       case rel => exact ⟨k + 1, by go_num, hlt, HNext, HB3.out⟩
       case measure => simp [intOf]; omega)
     ·have hzd : decide (0 ≤ z) = true := decide_eq_true (by omega)
      have HF := hide (HFail.out (by rw [HEx.out]; exact decide_eq_false hzn))
      clear hzn hJ
      go_region_held3 (fun W => W.cell? ⟨Z, 2, none⟩ = some (.slice (some ⟨b, o, none⟩) es.length c) ∧ W.cell? ⟨b, o + j * 3, none⟩ = some (.int .i64 d.f) ∧ W.cell? ⟨b, o + j * 3 + 1, none⟩ = some (.int .i64 d.l) ∧ W.cell? ⟨b, o + j * 3 + 2, none⟩ = some (.int .i64 d.t) ∧ W.cell? ⟨X, 0, none⟩ = some (.int .i64 e.f) ∧ W.cell? ⟨X, 1, none⟩ = some (.int .i64 e.l) ∧ W.cell? ⟨X, 2, none⟩ = some (.int .i64 e.t))
       (with_reducible exact hall.out _ hAcc)
       (first | (go_at_call 125; (with_reducible refine HBf.out.mono ?_); rintro en w2 ⟨rfl, hB2⟩; replace hAcc := hAcc.trans hB2))
      all_goals (
       have HB3 := hide (HBx.out.trans (hAcc.mono (by omega)))
       clear hAcc
       go_wp2
       go_ret
       exact ⟨10, rfl, by rw [HF.out]; rfl, by rw [HZ.out]; exact HB3.out⟩)
   ·have HBad := hide (show okAt L S es k = false by
     unfold okAt
     rw [HE.out]
     simp only
     rw [show okE L S e = false by simpa using hok, Bool.false_and])
    have hfin : mn < 0 ∨ (¬ mn < 0 ∧ S ≤ mx) ∨ (¬ mn < 0 ∧ ¬ S ≤ mx ∧ L ≤ e.l) := by
     have h1 := HMN.out
     have h2 := HMX.out
     by_cases c1 : mn < 0
     ·exact .inl c1
     ·by_cases c2 : S ≤ mx
      ·exact .inr (.inl ⟨c1, c2⟩)
      ·refine .inr (.inr ⟨c1, c2, ?_⟩)
       apply Int.not_lt.1
       intro c3
       apply hok
       unfold okE
       simp only [Bool.and_eq_true, decide_eq_true_eq]
       have h3 : 0 ≤ e.f ∧ 0 ≤ e.l ∧ 0 ≤ e.t := Classical.not_not.1 (fun h => c1 (h1.2 h))
       have h4 : e.f < S ∧ e.t < S := Classical.not_not.1 (fun h => c2 (h2.2 h))
       exact ⟨⟨⟨⟨⟨h3.1, h3.2.1⟩, h3.2.2⟩, h4.1⟩, h4.2⟩, c3⟩
    have HF := hide (HFail.out HBad.out)
    have HBA := hide (HBw.out.trans (hA.mono (by omega)))
    clear hok hA
    rcases hfin with c1 | ⟨c1, c2⟩ | ⟨c1, c2, c3⟩
    ·have q0 : decide (mn < 0) = true := decide_eq_true c1
     clear c1
     go_wp2
     go_ret
     exact ⟨2, rfl, by rw [HF.out]; rfl, by rw [HZ.out]; exact HBA.out⟩
    ·have q0 : decide (mn < 0) = false := decide_eq_false c1
     have q1 : decide (S ≤ mx) = true := decide_eq_true c2
     clear c1 c2
     go_wp2
     go_ret
     exact ⟨2, rfl, by rw [HF.out]; rfl, by rw [HZ.out]; exact HBA.out⟩
    ·have q0 : decide (mn < 0) = false := decide_eq_false c1
     have q1 : decide (S ≤ mx) = false := decide_eq_false c2
     have q2 : decide (L ≤ e.l) = true := decide_eq_true c3
     clear c1 c2 c3
     go_wp2
     go_ret
     exact ⟨2, rfl, by rw [HF.out]; rfl, by rw [HZ.out]; exact HBA.out⟩
  ·obtain rfl : k = es.length := by omega
   have HB := hide hBw
   have HAll := hide (show (List.range es.length).all (okAt L S es) = true by
    rw [List.all_eq_true]
    intro j hj
    exact hJ.out j (List.mem_range.1 hj))
   clear hB hBw
   go_wp2
   go_ret
   exact ⟨0, rfl, by rw [HAll.out]; rfl, by rw [HZ.out]; exact HB.out⟩
set_option maxRecDepth 100000 in
set_option maxHeartbeats 2000000 in
theorem grCheck_any (L S : Int) (es : List Edg) (A : Option Addr) (c : Nat) (w : World) (hr : RowE w A es) :
  Calls Tryz.prog 26 #[.agg #[.int .i64 L, .int .i64 S, .slice A es.length c]] w fun e w' => ∃ r : Int, e = .returned (.int .i64 r) ∧ (r == 0) = okG L S es ∧ Below w.heap.size w w' := by
 have hB0 : Below w.heap.size w (w.alloc (.cells #[.int .i64 L, .int .i64 S, .slice A es.length c] 24)) := (Below.refl _ w).alloc (Nat.le_refl _) _
 by_cases hL : 1 ≤ L ∧ L ≤ 256
 ·by_cases hS : 0 ≤ S
  ·by_cases hS2 : S ≤ 64 ∧ es.length ≤ 1024
   ·have h := grCheck_go L S es A c w hL ⟨hS, hS2.1⟩ hS2.2 hr
    have e : okG L S es = (List.range es.length).all (okAt L S es) := by
     unfold okG
     rw [decide_eq_true hL.1, decide_eq_true hL.2, decide_eq_true hS, decide_eq_true hS2.1, decide_eq_true hS2.2]
     simp
    rw [e]
    exact h
   ·have HV := hide (show okG L S es = false by
     unfold okG
     by_cases h1 : S ≤ 64
     ·rw [decide_eq_false (fun h => hS2 ⟨h1, h⟩)]; simp
     ·rw [decide_eq_false h1]; simp)
    have hL1 := hL.1
    have hL2 := hL.2
    clear hL hr
    by_cases h1 : S ≤ 64
    ·have hl : ¬ es.length ≤ 1024 := fun h => hS2 ⟨h1, h⟩
     have hd : decide ((1024 : Int) < (es.length : Int)) = true := decide_eq_true (by omega)
     clear hS2
     go_enter Tryz.func26, Tryz.ntmps26
     go_wp2
     go_ret
     exact ⟨4, rfl, by rw [HV.out]; rfl, hB0⟩
    ·have hd : decide ((64 : Int) < S) = true := decide_eq_true (by omega)
     clear hS2
     go_enter Tryz.func26, Tryz.ntmps26
     go_wp2
     go_ret
     exact ⟨4, rfl, by rw [HV.out]; rfl, hB0⟩
  ·have HV := hide (show okG L S es = false by
    unfold okG
    rw [decide_eq_false hS]; simp)
   have hL1 := hL.1
   have hL2 := hL.2
   have hd : decide (S < 0) = true := decide_eq_true (by omega)
   clear hL hr hS
   go_enter Tryz.func26, Tryz.ntmps26
   go_wp2
   go_ret
   exact ⟨2, rfl, by rw [HV.out]; rfl, hB0⟩
 ·have HV := hide (show okG L S es = false by
   unfold okG
   by_cases h1 : 1 ≤ L
   ·rw [decide_eq_false (show ¬ L ≤ 256 from fun h => hL ⟨h1, h⟩)]; simp
   ·rw [decide_eq_false h1]; simp)
  by_cases h1 : 1 ≤ L
  ·have hd : decide ((256 : Int) < L) = true := decide_eq_true (by omega)
   clear hr hL
   go_enter Tryz.func26, Tryz.ntmps26
   go_wp2
   go_ret
   exact ⟨12, rfl, by rw [HV.out]; rfl, hB0⟩
  ·have hd : decide (L < 1) = true := decide_eq_true (by omega)
   clear hr hL
   go_enter Tryz.func26, Tryz.ntmps26
   go_wp2
   go_ret
   exact ⟨12, rfl, by rw [HV.out]; rfl, hB0⟩
end Go.Proofs.YtbnpjoiojhnimaaGreatDoor
namespace Go.Proofs.YtbnpjoiojhnimaaGreatDoor
theorem digit_mod (b S i j : Nat) (hb : 0 < b) : S % b ^ i / b ^ j % b = if j < i then S / b ^ j % b else 0 := by
 split
 ·rename_i h
  obtain ⟨d, rfl⟩ : ∃ d, i = j + (d + 1) := ⟨i - j - 1, by omega⟩
  rw [Nat.pow_add, Nat.mod_mul_right_div_self, Nat.pow_succ, Nat.mul_comm (b ^ d), Nat.mod_mul_right_mod]
 ·rename_i h
  rw [Nat.div_eq_of_lt (Nat.lt_of_lt_of_le (Nat.mod_lt _ (Nat.pow_pos hb)) (Nat.pow_le_pow_right hb (by omega)))]
  exact Nat.zero_mod _
theorem div_succ (b S i : Nat) : S / b ^ (i + 1) = S / b ^ i / b := by rw [Nat.pow_succ, Nat.div_div_eq_div_mul]
def limbs (m N : Nat) : List Nat := (List.range m).map fun k => N / 4294967296 ^ k % 4294967296
theorem limbs_len (m N : Nat) : (limbs m N).length = m := by simp [limbs]
theorem limbs_get {m N k : Nat} (hk : k < (limbs m N).length) : (limbs m N)[k] = N / 4294967296 ^ k % 4294967296 := by simp [limbs]
theorem limbs_lt {m N k : Nat} (hk : k < (limbs m N).length) : (limbs m N)[k] < 4294967296 := by rw [limbs_get]; exact Nat.mod_lt _ (by decide)
theorem limbs_zero (m : Nat) : limbs m 0 = List.replicate m 0 := by
 apply List.ext_getElem
 ·simp [limbs]
 ·intro k h1 h2
  rw [limbs_get, List.getElem_replicate, Nat.zero_div]
theorem limbs_set {m N N' k v : Nat} (hv : v = N' / 4294967296 ^ k % 4294967296) (h : ∀ j, j < m → j ≠ k → N / 4294967296 ^ j % 4294967296 = N' / 4294967296 ^ j % 4294967296) :
  (limbs m N).set k v = limbs m N' := by
 apply List.ext_getElem
 ·simp [limbs]
 ·intro j h1 h2
  rw [limbs_get, List.getElem_set]
  have hj : j < m := by rw [limbs_len] at h2; exact h2
  split
  ·rename_i e; subst e; exact hv
  ·rename_i e; rw [limbs_get]; exact h j hj (by omega)
theorem limbs_next (m S i : Nat) : (limbs m (S % 4294967296 ^ i)).set i (S / 4294967296 ^ i % 4294967296) = limbs m (S % 4294967296 ^ (i + 1)) := by
 refine limbs_set ?_ fun j hj hne => ?_
 ·rw [digit_mod _ _ _ _ (by decide), if_pos (by omega)]
 ·rw [digit_mod _ _ _ _ (by decide), digit_mod _ _ _ _ (by decide)]
  by_cases h : j < i
  ·rw [if_pos h, if_pos (by omega)]
  ·rw [if_neg h, if_neg (by omega)]
theorem limbs_or (m N i : Nat) : (limbs m (N % 256 ^ i)).set (i / 4) (N % 256 ^ i / 4294967296 ^ (i / 4) % 4294967296 ||| N / 256 ^ i % 256 * 2 ^ (8 * (i % 4))) = limbs m (N % 256 ^ (i + 1)) := by
 have e1 : ∀ i, (256 : Nat) ^ i = 2 ^ (8 * i) := fun i => by rw [Nat.pow_mul]
 have e2 : ∀ i, (4294967296 : Nat) ^ i = 2 ^ (32 * i) := fun i => by rw [Nat.pow_mul]
 refine limbs_set ?_ fun j hj hne => ?_
 ·apply Nat.eq_of_testBit_eq
  intro t
  rw [show (4294967296 : Nat) = 2 ^ 32 from rfl, show (N / 256 ^ i % 256 : Nat) = N / 256 ^ i % 2 ^ 8 from rfl, ← Nat.pow_mul, e1, e1, ← Nat.shiftLeft_eq]
  simp only [Nat.testBit_or, Nat.testBit_mod_two_pow, Nat.testBit_div_two_pow, Nat.testBit_shiftLeft]
  by_cases h32 : t < 32
  ·by_cases h : 8 * (i % 4) ≤ t
   ·have e3 : 8 * i + (t - 8 * (i % 4)) = 32 * (i / 4) + t := by omega
    have e4 : ¬ (32 * (i / 4) + t < 8 * i) := by omega
    rw [Nat.add_comm t, Nat.add_comm (t - 8 * (i % 4)), e3]
    simp only [h32, h, e4, decide_true, decide_false, Bool.true_and, Bool.false_and, Bool.false_or]
    congr 1
    exact decide_eq_decide.2 (by omega)
   ·have e4 : t + 32 * (i / 4) < 8 * i := by omega
    have e5 : t + 32 * (i / 4) < 8 * (i + 1) := by omega
    simp [h32, h, e4, e5]
  ·have h : 8 * (i % 4) ≤ t := by omega
   have e4 : ¬ (t - 8 * (i % 4) < 8) := by omega
   simp [h32, h, e4]
 ·rw [e1, e1, show (4294967296 : Nat) = 2 ^ 32 from rfl, ← Nat.pow_mul]
  apply Nat.eq_of_testBit_eq
  intro t
  simp only [Nat.testBit_mod_two_pow, Nat.testBit_div_two_pow]
  by_cases h32 : t < 32
  ·congr 2
   exact decide_eq_decide.2 (by omega)
  ·simp [h32]
def Trm (N l : Nat) : Prop := N < 4294967296 ^ l ∧ (0 < l → 4294967296 ^ (l - 1) ≤ N)
theorem Trm.uniq {N l l' : Nat} (h : Trm N l) (h' : Trm N l') : l = l' := by
 have key : ∀ a b, Trm N a → Trm N b → ¬ a < b := by
  intro a b ha hb hlt
  have h1 := hb.2 (by omega)
  have h2 := Nat.pow_le_pow_right (show 0 < 4294967296 by decide) (show a ≤ b - 1 by omega)
  have := ha.1
  omega
 have := key l l' h h'
 have := key l' l h' h
 omega
theorem trm_down {N l : Nat} (h : N < 4294967296 ^ (l + 1)) (h0 : N / 4294967296 ^ l % 4294967296 = 0) : N < 4294967296 ^ l := by
 have h1 : N / 4294967296 ^ l < 4294967296 := by
  rw [Nat.div_lt_iff_lt_mul (Nat.pow_pos (by decide)), Nat.mul_comm, ← Nat.pow_succ]; exact h
 rw [Nat.mod_eq_of_lt h1] at h0
 exact (Nat.div_eq_zero_iff_lt (Nat.pow_pos (by decide))).1 h0
theorem trm_here {N l : Nat} (h : N < 4294967296 ^ (l + 1)) (h0 : N / 4294967296 ^ l % 4294967296 ≠ 0) : Trm N (l + 1) := by
 refine ⟨h, fun _ => ?_⟩
 rw [Nat.add_sub_cancel]
 apply Nat.le_of_not_lt
 intro hlt
 rw [Nat.div_eq_of_lt hlt] at h0
 exact h0 rfl
theorem Trm.zero {N : Nat} (h : Trm N 0) : N = 0 := by have := h.1; omega
theorem Trm.pos {N l : Nat} (h : Trm N l) (hl : 0 < l) : 0 < N := Nat.lt_of_lt_of_le (Nat.pow_pos (by decide)) (h.2 hl)
theorem Trm.le {N l m : Nat} (h : Trm N l) (hm : N < 4294967296 ^ m) : l ≤ m := by
 apply Nat.le_of_not_lt
 intro hlt
 have h1 := h.2 (by omega)
 have h2 := Nat.pow_le_pow_right (show 0 < 4294967296 by decide) (show m ≤ l - 1 by omega)
 omega
theorem add_carry (b X Y i c : Nat) (hb : 0 < b) (h : (X + Y) / b ^ i = X / b ^ i + Y / b ^ i + c) :
  (X + Y) / b ^ i % b = (X / b ^ i % b + Y / b ^ i % b + c) % b ∧ (X + Y) / b ^ (i + 1) = X / b ^ (i + 1) + Y / b ^ (i + 1) + (X / b ^ i % b + Y / b ^ i % b + c) / b := by
 rw [div_succ, div_succ, div_succ, h]
 generalize X / b ^ i = x
 generalize Y / b ^ i = y
 constructor
 ·rw [Nat.add_mod (x % b + y % b), ← Nat.add_mod x y, ← Nat.add_mod]
 ·have hx := Nat.div_add_mod x b
  have hy := Nat.div_add_mod y b
  have e : x + y + c = b * (x / b + y / b) + (x % b + y % b + c) := by rw [Nat.mul_add]; omega
  rw [e, Nat.mul_add_div hb]
def blen (n : Nat) : Nat := if h : n = 0 then 0 else blen (n / 256) + 1
termination_by n
decreasing_by omega
theorem blen_zero : blen 0 = 0 := by rw [blen]; simp
theorem blen_pos {n : Nat} (h : n ≠ 0) : blen n = blen (n / 256) + 1 := by rw [blen]; simp [h]
theorem blen_lt (n : Nat) : n < 256 ^ blen n := by
 induction n using Nat.strongRecOn with
 | _ n ih =>
  by_cases h : n = 0
  ·subst h; rw [blen_zero]; decide
  ·rw [blen_pos h, Nat.pow_succ]
   have := ih (n / 256) (by omega)
   omega
theorem blen_ge (n : Nat) (h : n ≠ 0) : 256 ^ (blen n - 1) ≤ n := by
 induction n using Nat.strongRecOn with
 | _ n ih =>
  rw [blen_pos h, Nat.add_sub_cancel]
  by_cases h1 : n / 256 = 0
  ·rw [h1, blen_zero]; show 1 ≤ n; omega
  ·have h2 := ih (n / 256) (by omega) h1
   have h3 := blen_pos h1
   rw [h3, Nat.add_sub_cancel] at h2
   rw [h3, Nat.pow_succ]
   omega
theorem blen_le {n m : Nat} (h : n < 256 ^ m) : blen n ≤ m := by
 by_cases h0 : n = 0
 ·subst h0; rw [blen_zero]; exact Nat.zero_le _
 ·apply Nat.le_of_not_lt
  intro hlt
  have h1 := blen_ge n h0
  have h2 := Nat.pow_le_pow_right (show 0 < 256 by decide) (show m ≤ blen n - 1 by omega)
  omega
def beL (m S : Nat) : List UInt8 := (List.range m).map fun k => UInt8.ofNat (S / 256 ^ (m - 1 - k))
def beN (n : Nat) : List UInt8 := beL (blen n) n
theorem beL_len (m S : Nat) : (beL m S).length = m := by simp [beL]
theorem beN_len (n : Nat) : (beN n).length = blen n := beL_len _ _
theorem beL_get {m S k : Nat} (hk : k < (beL m S).length) : (beL m S)[k] = UInt8.ofNat (S / 256 ^ (m - 1 - k)) := by simp [beL]
theorem beL_snoc (m M c : Nat) (hc : c < 256) : beL (m + 1) (256 * M + c) = beL m M ++ [UInt8.ofNat c] := by
 unfold beL
 rw [List.range_succ, List.map_append]
 congr 1
 ·apply List.map_congr_left
  intro k hk
  have hk' := List.mem_range.1 hk
  have e : m + 1 - 1 - k = (m - 1 - k) + 1 := by omega
  have e2 : (256 * M + c) / 256 = M := by omega
  rw [e, Nat.pow_succ, Nat.mul_comm (256 ^ _), ← Nat.div_div_eq_div_mul, e2]
 ·simp only [List.map_cons, List.map_nil, Nat.add_sub_cancel, Nat.sub_self, Nat.pow_zero, Nat.div_one]
  congr 1
  apply UInt8.toNat_inj.1
  rw [UInt8.toNat_ofNat', UInt8.toNat_ofNat']
  omega
theorem beN_snoc {M c : Nat} (hc : c < 256) (h : 0 < 256 * M + c) : beN (256 * M + c) = beN M ++ [UInt8.ofNat c] := by
 unfold beN
 rw [blen_pos (by omega), show (256 * M + c) / 256 = M by omega, beL_snoc _ _ _ hc]
theorem beN_zero : beN 0 = [] := by unfold beN; rw [blen_zero]; rfl
theorem beN_nil {n : Nat} : beN n = [] ↔ n = 0 := by
 constructor
 ·intro h
  have := congrArg List.length h
  rw [beN_len] at this
  by_cases h0 : n = 0
  ·exact h0
  ·rw [blen_pos h0] at this; simp at this
 ·rintro rfl; exact beN_zero
theorem beN_eq {m S : Nat} (h : blen S = m) : beL m S = beN S := by subst h; rfl
theorem beL_zero (m : Nat) : beL m 0 = List.replicate m 0 := by
 apply List.ext_getElem
 ·simp [beL]
 ·intro k h1 h2
  rw [beL_get, List.getElem_replicate, Nat.zero_div]; rfl
theorem beL_back {m S i : Nat} (hi : i < m) (hk : m - 1 - i < (beL m S).length) : (beL m S)[m - 1 - i].toNat = S / 256 ^ i % 256 := by
 rw [beL_get, UInt8.toNat_ofNat', show m - 1 - (m - 1 - i) = i by omega]
theorem beL_next {m S i : Nat} (hi : i < m) : (beL m (S % 256 ^ i)).set (m - 1 - i) (UInt8.ofNat (S / 256 ^ i)) = beL m (S % 256 ^ (i + 1)) := by
 apply List.ext_getElem
 ·simp [beL]
 ·intro k h1 h2
  have hk : k < m := by rw [beL_len] at h2; exact h2
  rw [beL_get, List.getElem_set]
  apply UInt8.toNat_inj.1
  split
  ·rename_i e
   subst e
   rw [UInt8.toNat_ofNat', UInt8.toNat_ofNat', show m - 1 - (m - 1 - i) = i by omega]
   have := digit_mod 256 S (i + 1) i (by decide)
   rw [if_pos (by omega)] at this
   exact this.symm
  ·rename_i e
   rw [beL_get, UInt8.toNat_ofNat', UInt8.toNat_ofNat']
   have h1 := digit_mod 256 S (i + 1) (m - 1 - k) (by decide)
   have h2 := digit_mod 256 S i (m - 1 - k) (by decide)
   have e2 : (m - 1 - k < i + 1) = (m - 1 - k < i) := propext ⟨fun h => by omega, fun h => by omega⟩
   simp only [e2] at h1
   exact h2.trans h1.symm
theorem beL_head {m S : Nat} (h0 : S < 256 ^ (m + 1)) (hk : 0 < (beL (m + 1) S).length) : ((beL (m + 1) S)[0] = 0 ↔ S < 256 ^ m) := by
 rw [beL_get, show m + 1 - 1 - 0 = m by omega]
 have h1 : S / 256 ^ m < 256 := by
  rw [Nat.div_lt_iff_lt_mul (Nat.pow_pos (by decide)), Nat.mul_comm, ← Nat.pow_succ]; exact h0
 constructor
 ·intro h
  have := congrArg UInt8.toNat h
  rw [UInt8.toNat_ofNat'] at this
  have h2 : S / 256 ^ m = 0 := by
   rw [Nat.mod_eq_of_lt (show S / 256 ^ m < 2 ^ 8 from h1)] at this
   exact this
  exact (Nat.div_eq_zero_iff_lt (Nat.pow_pos (by decide))).1 h2
 ·intro h
  rw [Nat.div_eq_of_lt h]; rfl
theorem beL_tail {m S : Nat} : (beL (m + 1) S).drop 1 = beL m S := by
 apply List.ext_getElem
 ·simp [beL]
 ·intro k h1 h2
  rw [List.getElem_drop, beL_get, beL_get]
  congr 3
  omega
theorem blen_here {m S : Nat} (h : S < 256 ^ (m + 1)) (h1 : ¬ S < 256 ^ m) : blen S = m + 1 := by
 have h2 := blen_le h
 have h3 := blen_lt S
 have h4 : ¬ blen S ≤ m := fun hle => h1 (Nat.lt_of_lt_of_le h3 (Nat.pow_le_pow_right (by decide) hle))
 omega
end Go.Proofs.YtbnpjoiojhnimaaGreatDoor
