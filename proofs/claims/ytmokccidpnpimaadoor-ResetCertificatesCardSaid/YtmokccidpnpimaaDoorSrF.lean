/- reset.search$1: the closure that puts a set at the end of the queue. -/
import Derived.Test.YtmokccidpnpimaaDoorQue
set_option linter.unusedVariables false
namespace Go.Proofs.YtmokccidpnpimaaDoor
open Go.RowKit Go.Maps
theorem QueV.shape {w : World} {B g : Nat} {v : Value} {r : List (Nat × ByteArray)} (h : QueV w B g v r) : ∃ a n c, v = .slice a n c := by
  obtain ⟨o, cap, cur, h1, _⟩ := h
  exact ⟨_, _, _, h1⟩
set_option maxRecDepth 100000 in
set_option maxHeartbeats 4000000 in
theorem zsearchf_any (k y : Nat) (x : Nat × ByteArray) (r : List (Nat × ByteArray)) (B g Q X : Nat) (v : Value) (w : World) (hk : k < 16) (hx : x.2.size ≤ 64) (hr : r.length ≤ 4096)
    (hQ : VarQ w Q v) (hX : BoxF w X x) (hv : QueV w B g v r) (hgX : g ≠ X) (hB : B ≤ w.heap.size) (hBQ : B ≤ Q) :
    Calls Tryd.prog 62 #[.int .i64 k, .int .i64 y, .pointer (some ⟨Q, 0, none⟩), .pointer (some ⟨X, 0, none⟩)] w fun e w' => e = .returned (.tuple #[]) ∧
      (∃ g' v', VarQ w' Q v' ∧ BoxF w' X x ∧ QueV w' B g' v' (r ++ [(y, x.2 ++ ltr k)]) ∧ g' ≠ X) ∧ (∀ M S, SeenV w M S → SeenV w' M S) ∧ KeepA w w' ∧ Below B w w' := by
  have c1 := hX.c1
  have cQ := hQ.cell
  have lQ := hQ.lt
  have lX := hX.lt
  have q1 : IntKind.i64.wrap ((k : Int) + 1) = (k : Int) + 1 := IntWalk.i64_in _ (by omega)
  have q2 : ((k : Int) + 1).toNat = k + 1 := by omega
  have q3 : (0 : Int) ≤ (k : Int) + 1 := by omega
  have q4 : (k : Int) + 1 ≤ 16 := by omega
  have q5 : (0 : Int) ≤ (k : Int) := by omega
  have q6 : (k : Int) ≤ (k : Int) + 1 := by omega
  have q7 : ¬ 9223372036854775807 < x.2.size + (min (k + 1) 16 - k) := by omega
  have lq := hv.lt
  have hvW : QueV (w.drew.alloc (Obj.cells #[.int .i64 y, .string (x.2 ++ ltr k)] 74)) B g v r := (QueV.drew hv).alloc _
  have hQW : VarQ (w.drew.alloc (Obj.cells #[.int .i64 y, .string (x.2 ++ ltr k)] 74)) Q v := by unfold VarQ; rw [heap_alloc_old w.drew _ lQ]; exact hQ
  have hXW : BoxF (w.drew.alloc (Obj.cells #[.int .i64 y, .string (x.2 ++ ltr k)] 74)) X x := by unfold BoxF; rw [heap_alloc_old w.drew _ lX]; exact hX
  have hQg := que_ne_var hv hQ
  have hXQ := box_ne_var hX hQ
  have HQ := hide hQ
  have HX := hide hX
  have HV := hide hv
  have HE : Hid (∀ (g' : Nat) (u : Value) (w2 : World), QueV w2 B g' u (r ++ [(y, x.2 ++ ltr k)]) → (w.drew.alloc (Obj.cells #[.int .i64 y, .string (x.2 ++ ltr k)] 74)).grownBy w2 (some g) → (g' = g ∨ (w.drew.alloc (Obj.cells #[.int .i64 y, .string (x.2 ++ ltr k)] 74)).heap.size ≤ g') → VarQ w2 Q v →
      (∃ g' v', VarQ (w2.setCell ⟨Q, 0, none⟩ u) Q v' ∧ BoxF (w2.setCell ⟨Q, 0, none⟩ u) X x ∧ QueV (w2.setCell ⟨Q, 0, none⟩ u) B g' v' (r ++ [(y, x.2 ++ ltr k)]) ∧ g' ≠ X) ∧ (∀ M S, SeenV w M S → SeenV (w2.setCell ⟨Q, 0, none⟩ u) M S) ∧ KeepA w (w2.setCell ⟨Q, 0, none⟩ u) ∧ Below B w (w2.setCell ⟨Q, 0, none⟩ u)) := by
    refine hide fun g' u w2 hv2 hg2 hgg hQ2 => ?_
    have hs : (w.drew.alloc (Obj.cells #[.int .i64 y, .string (x.2 ++ ltr k)] 74)).heap.size = w.heap.size + 1 := by simp
    rw [hs] at hgg
    have hX2 : BoxF w2 X x := (hg2.block X (by rw [hs]; omega) (by simp; exact fun e => hgX e.symm)).trans hXW
    have hQg' : Q ≠ g' := que_ne_var hv2 hQ2
    refine ⟨⟨g', u, hQ2.set_ u, (Below.heap_setCell w2 ⟨Q, 0, none⟩ u X hXQ).trans hX2, hv2.setCell (fun e => hQg' e.symm) u, by omega⟩, fun M S hM => ?_, fun j c hj => ?_, ?_⟩
    · have hM1 : SeenV (w.drew.alloc (Obj.cells #[.int .i64 y, .string (x.2 ++ ltr k)] 74)) M S := (SeenV.drew hM).alloc _
      exact (hM1.kept hg2 (que_ne_map hvW hM1)).setCell (var_ne_map HQ.out hM) u
    · have hjl : j < w.heap.size := (Array.getElem?_eq_some_iff.1 hj).1
      have hjQ : j ≠ Q := by
        rintro rfl
        have := HQ.out
        unfold VarQ at this
        rw [this] at hj
        simp at hj
      have hjg : j ≠ g := by
        rintro rfl
        obtain ⟨o, cap, cur, _, _, hg, _⟩ := HV.out
        rw [hg] at hj
        simp at hj
      rw [Below.heap_setCell w2 ⟨Q, 0, none⟩ u j hjQ, hg2.block j (by rw [hs]; omega) (by simpa using hjg), heap_alloc_old w.drew _ hjl]
      exact hj
    · refine Below.setCell (((Below.refl B w).drew.alloc (by simpa using hB) _).grown hg2 (by rw [hs]; omega) (fun j e => by cases e; exact HV.out.ge)) hBQ u
  go_enter Tryd.func62, Tryd.ntmps62
  go_wp2_with fail
  clear hQ hX hv
  have c1' : w.drew.cell? ⟨X, 1, none⟩ = some (.string x.2) := c1
  have cQ' : w.drew.cell? ⟨Q, 0, none⟩ = some v := cQ
  go_region_law (refine step_app_que (by rfl) (.tmp 6) (.tmp 16) (by rfl) B g _ r (by rfl) hvW (y, x.2 ++ ltr k) w.heap.size (by rfl) (heap_alloc_new w.drew _) (by omega) (by simp; omega) ?_; intro g' v' w2 hv2 hg2 hgg; obtain ⟨o', n', c', rfl⟩ := hv2.shape; have hQ2 : VarQ w2 Q v := (hg2.block Q (by simp; omega) (by simpa using hQg)).trans hQW; have cQ2 := hQ2.cell; have fQ2 := hQ2.free_)
  all_goals (
    go_end0
    exact ⟨rfl, HE.out g' _ w2 hv2 hg2 hgg hQ2⟩)
end Go.Proofs.YtmokccidpnpimaaDoor
