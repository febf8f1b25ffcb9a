/- Contract of groovelaw58.awake: it returns true, and nothing that lay has changed. -/
import Derived.Test.YtmajalpmbppkpaaRdC
import Derived.Test.YtmajalpmbppkpaaCfD
import Derived.KernelRfl
set_option linter.unusedVariables false
namespace Go.Proofs.Ytmajalpmbppkpaa
open Go.RowKit
theorem num_eq {xs : List Sct} {st : Int} {a b : List Int} (ha : NumRes xs st a) (hb : NumRes xs st b) : a = b := by
  have nd : ∀ {l : List Int}, l.Pairwise (fun a b => a < b) → l.Nodup := fun h => h.imp (fun {a b} hab e => by omega)
  exact List.Perm.eq_of_pairwise (le := fun a b : Int => a < b) (fun a b _ _ h1 h2 => by omega) ha.1 hb.1 ((List.perm_ext_iff_of_nodup (nd ha.1) (nd hb.1)).2 fun z => by rw [ha.2, hb.2])
theorem IStr.row {w : World} {B : Nat} {v : Value} {zs : List Int} (h : IStr w B v zs) : ∃ A c, v = .slice A zs.length c ∧ RowI w A zs := by
  by_cases hv : v = .slice none 0 0
  · subst hv
    have h0 : zs.length = 0 := by
      rcases h.2 with ⟨_, h2⟩ | ⟨g, cap, cur, e, _⟩
      · exact h2
      · cases e
    exact ⟨none, 0, by rw [h0], fun h => absurd h (by omega)⟩
  · obtain ⟨g, c, rfl, _, _, _, hg, hc⟩ := Row1I.form ⟨h, hv⟩
    exact ⟨_, c, rfl, fun _ => ⟨g, 0, rfl, hg, fun k hk => by rw [Nat.zero_add]; exact hc k hk⟩⟩
def exS : List Sct := [⟨2, 0, 1, [1]⟩, ⟨0, 0, 3, []⟩, ⟨2, 0, 1, []⟩, ⟨1, 0, 1, []⟩]
def exD : List (List Int) := [[], [], [1], []]
theorem ex_cmp : cmpOf exS exD exD.length = [0, 3] := by kernel_rfl
theorem ex_good : NumRes exS 1 [1, 2] := by
  have e : numsOf exS 1 exS.length = [2, 2, 1] := by kernel_rfl
  refine ⟨by simp, fun z => ?_⟩
  rw [e]
  simp only [List.mem_cons, List.not_mem_nil, or_false]
  omega
theorem ex_lost : NumRes exS 3 [0] := by
  have e : numsOf exS 3 exS.length = [0] := by kernel_rfl
  exact ⟨by simp, fun z => by rw [e]⟩
def wEx (w : World) : World := (((((w.alloc (Obj.cells #[Value.int IntKind.i64 1] 3)).alloc (Obj.cells #[Value.int IntKind.i64 2, Value.int IntKind.i64 0, Value.int IntKind.i64 1, Value.slice (some ⟨w.heap.size, 0, none⟩) 1 1, Value.int IntKind.i64 0, Value.int IntKind.i64 0, Value.int IntKind.i64 3, Value.slice none 0 0, Value.int IntKind.i64 2, Value.int IntKind.i64 0, Value.int IntKind.i64 1, Value.slice none 0 0, Value.int IntKind.i64 1, Value.int IntKind.i64 0, Value.int IntKind.i64 1, Value.slice none 0 0] 71)).alloc (Obj.cells #[Value.int IntKind.i64 1] 3)).alloc (Obj.cells #[] 3)).alloc (Obj.cells #[Value.slice none 0 0, Value.slice none 0 0, Value.slice (some ⟨w.heap.size + 1 + 1, 0, none⟩) 1 1, Value.slice (some ⟨w.heap.size + 1 + 1 + 1, 0, none⟩) 0 0] 26))
theorem wEx_below (w : World) : Below w.heap.size w (wEx w) := by
  unfold wEx
  exact (((((Below.refl _ w).alloc (Nat.le_refl _) _).alloc (by simp) _).alloc (by simp; omega) _).alloc (by simp; omega) _).alloc (by simp; omega) _
theorem wEx_size (w : World) : (wEx w).heap.size = w.heap.size + 5 := by unfold wEx; simp
theorem wEx_sec (w : World) : RowC (wEx w) (some ⟨w.heap.size + 1, 0, none⟩) exS := fun _ => ⟨w.heap.size + 1, 0, rfl, by rw [wEx_size]; omega, fun k hk => by
  match k, hk with
  | 0, _ => exact ⟨by simp [wEx, exS, go_sem], by simp [wEx, exS, go_sem], by simp [wEx, exS, go_sem], _, _, by simp [wEx, exS, go_sem]; first | exact ⟨rfl, rfl⟩ | rfl, fun _ => ⟨w.heap.size, 0, rfl, by rw [wEx_size]; omega, fun j hj => by
      obtain rfl : j = 0 := by simp [exS] at hj; omega
      simp [wEx, exS, go_sem]⟩⟩
  | 1, _ => exact ⟨by simp [wEx, exS, go_sem], by simp [wEx, exS, go_sem], by simp [wEx, exS, go_sem], _, _, by simp [wEx, exS, go_sem]; first | exact ⟨rfl, rfl⟩ | rfl, fun h => absurd h (by simp [exS])⟩
  | 2, _ => exact ⟨by simp [wEx, exS, go_sem], by simp [wEx, exS, go_sem], by simp [wEx, exS, go_sem], _, _, by simp [wEx, exS, go_sem]; first | exact ⟨rfl, rfl⟩ | rfl, fun h => absurd h (by simp [exS])⟩
  | 3, _ => exact ⟨by simp [wEx, exS, go_sem], by simp [wEx, exS, go_sem], by simp [wEx, exS, go_sem], _, _, by simp [wEx, exS, go_sem]; first | exact ⟨rfl, rfl⟩ | rfl, fun h => absurd h (by simp [exS])⟩
  | n + 4, h => exact absurd h (by simp [exS])⟩
theorem wEx_dat (w : World) : RowD (wEx w) (some ⟨w.heap.size + 1 + 1 + 1 + 1, 0, none⟩) exD := fun _ => ⟨w.heap.size + 1 + 1 + 1 + 1, 0, rfl, by rw [wEx_size]; omega, fun k hk => by
  match k, hk with
  | 0, _ => exact ⟨_, _, by simp [wEx, exD, go_sem]; first | exact ⟨rfl, rfl⟩ | rfl, fun h => absurd h (by simp [exD])⟩
  | 1, _ => exact ⟨_, _, by simp [wEx, exD, go_sem]; first | exact ⟨rfl, rfl⟩ | rfl, fun h => absurd h (by simp [exD])⟩
  | 2, _ => exact ⟨_, _, by simp [wEx, exD, go_sem]; first | exact ⟨rfl, rfl⟩ | rfl, fun _ => ⟨w.heap.size + 1 + 1, 0, rfl, by rw [wEx_size]; omega, fun j hj => by
      obtain rfl : j = 0 := by simp [exD] at hj; omega
      simp [wEx, exD, go_sem]⟩⟩
  | 3, _ => exact ⟨_, _, by simp [wEx, exD, go_sem]; first | exact ⟨rfl, rfl⟩ | rfl, fun h => absurd h (by simp [exD])⟩
  | n + 4, h => exact absurd h (by simp [exD])⟩
theorem RowI.lit (W : World) (zs : List Int) : RowI (W.alloc (Obj.cells (zs.map (Value.int .i64)).toArray 3)) (some ⟨W.heap.size, 0, none⟩) zs := fun _ => ⟨W.heap.size, 0, rfl, by simp, fun k hk => by
  rw [Nat.zero_add, cell_of_row _ W.heap.size k _ 3 (0, 0) (heap_alloc_new W _)]
  simp [hk]⟩
set_option maxRecDepth 100000 in
set_option maxHeartbeats 1000000 in
theorem awake58_any (w : World) : Calls Try.prog 15 #[] w fun e w' => e = .returned (.bool true) ∧ Below w.heap.size w w' := by
  have hS := wEx_sec w
  have hw : ∀ x ∈ exS, (Lit.int .i64 x.ix).wf = true := by decide
  have h1 := rdCmp_any exS exD _ _ 4 4 (wEx w) hS (wEx_dat w) (by decide) (by decide) (by decide) (by decide) hw
  rw [ex_cmp] at h1
  have hB0 := wEx_below w
  have hB0 := hide hB0
  have H1 := hide h1
  clear h1
  go_enter Try.func15, Try.ntmps15
  go_wp2_with fail
  rw [show (((((w.alloc (Obj.cells #[Value.int IntKind.i64 1] 3)).alloc (Obj.cells #[Value.int IntKind.i64 2, Value.int IntKind.i64 0, Value.int IntKind.i64 1, Value.slice (some ⟨w.heap.size, 0, none⟩) 1 1, Value.int IntKind.i64 0, Value.int IntKind.i64 0, Value.int IntKind.i64 3, Value.slice none 0 0, Value.int IntKind.i64 2, Value.int IntKind.i64 0, Value.int IntKind.i64 1, Value.slice none 0 0, Value.int IntKind.i64 1, Value.int IntKind.i64 0, Value.int IntKind.i64 1, Value.slice none 0 0] 71)).alloc (Obj.cells #[Value.int IntKind.i64 1] 3)).alloc (Obj.cells #[] 3)).alloc (Obj.cells #[Value.slice none 0 0, Value.slice none 0 0, Value.slice (some ⟨w.heap.size + 1 + 1, 0, none⟩) 1 1, Value.slice (some ⟨w.heap.size + 1 + 1 + 1, 0, none⟩) 0 0] 26)) = wEx w from rfl]
  refine H1.out.mono ?_
  rintro e W6 ⟨v, rfl, hv, hB6⟩
  obtain ⟨A6, c6, rfl, hr6⟩ := hv.row
  have hB1 := hB6
  have HG := hide (rdGood_any exS _ 4 W6 (hS.below hB6) (by decide) hw)
  clear hv
  go_wp2_with fail
  refine HG.out.mono ?_
  rintro e W7 ⟨v, rfl, zs, hz, hv, hB7⟩
  obtain rfl := num_eq hz ex_good
  obtain ⟨A7, c7, rfl, hr7⟩ := hv.row
  clear hz hv
  have hb7 : Below W7.heap.size W7 (W7.alloc (Obj.cells #[Value.int IntKind.i64 1, Value.int IntKind.i64 2] 3)) := (Below.refl _ _).alloc (Nat.le_refl _) _
  have hE1 := slEqI_any [1, 2] [1, 2] A7 _ c7 2 (W7.alloc (Obj.cells #[Value.int IntKind.i64 1, Value.int IntKind.i64 2] 3)) (hr7.below hb7) (RowI.lit W7 [1, 2]) (by decide) (by decide)
  go_wp2_with fail
  refine hE1.mono ?_
  rintro e W8 ⟨rfl, q, hW8⟩
  have hB8 : Below W7.heap.size W7 W8 := by rw [hW8]; exact belowN hb7 q
  clear hE1 hb7 hW8 HG
  have hB67 := hB6.trans (hB7.mono hB6.size)
  have hB68 := hB67.trans (hB8.mono (Nat.le_trans hB6.size hB7.size))
  have HG := hide (rdLost_any exS _ 4 W8 (hS.below hB68) (by decide) hw)
  go_wp2_with fail
  refine HG.out.mono ?_
  rintro e W9 ⟨v, rfl, zs, hz, hv, hB9⟩
  obtain rfl := num_eq hz ex_lost
  obtain ⟨A9, c9, rfl, hr9⟩ := hv.row
  clear hz hv HG
  have hb9 : Below W9.heap.size W9 (W9.alloc (Obj.cells #[Value.int IntKind.i64 0] 3)) := (Below.refl _ _).alloc (Nat.le_refl _) _
  have hE1 := slEqI_any [0] [0] A9 _ c9 1 (W9.alloc (Obj.cells #[Value.int IntKind.i64 0] 3)) (hr9.below hb9) (RowI.lit W9 [0]) (by decide) (by decide)
  go_wp2_with fail
  refine hE1.mono ?_
  rintro e W10 ⟨rfl, q2, hW10⟩
  have hB10 : Below W9.heap.size W9 W10 := by rw [hW10]; exact belowN hb9 q2
  clear hE1 hb9 hW10
  have hB69 := hB68.trans (hB9.mono hB68.size)
  have hB610 := hB69.trans (hB10.mono hB69.size)
  have hb10 : Below W10.heap.size W10 (W10.alloc (Obj.cells #[Value.int IntKind.i64 0, Value.int IntKind.i64 3] 3)) := (Below.refl _ _).alloc (Nat.le_refl _) _
  have h610 : Below W6.heap.size W6 W10 := (hB7.trans (hB8.mono hB7.size)).trans ((hB9.mono (Nat.le_trans hB7.size hB8.size)).trans (hB10.mono (by have := hB7.size; have := hB8.size; have := hB9.size; omega)))
  have hE1 := slEqI_any [0, 3] [0, 3] A6 _ c6 2 (W10.alloc (Obj.cells #[Value.int IntKind.i64 0, Value.int IntKind.i64 3] 3)) ((hr6.below h610).below hb10) (RowI.lit W10 [0, 3]) (by decide) (by decide)
  go_wp2_with fail
  refine hE1.mono ?_
  rintro e W11 ⟨rfl, q3, hW11⟩
  have hB11 : Below W10.heap.size W10 W11 := by rw [hW11]; exact belowN hb10 q3
  clear hE1 hb10 hW11
  have hB12 := hB610.trans (hB11.mono hB610.size)
  go_wp2
  go_ret
  exact ⟨rfl, hB0.out.trans (hB12.mono hB0.out.size)⟩
end Go.Proofs.Ytmajalpmbppkpaa
