/- Rows of integers that the call itself makes ([]api.Int). -/
import Derived.Test.YtijeogengbphdaaR1c
import Derived.Test.YtijeogengbphdaaSizP
set_option linter.unusedVariables false
namespace Go.Proofs.Ytijeogengbphdaa
open Go.RowKit
theorem infoInt2 : (Try.prog.info? 39).map (fun i => (i.zero, i.size, i.bytes)) = some (some (.agg #[.bool false, .string ⟨#[]⟩]), 2, 24) := by kernel_rfl
def mg (N : Nat) : ByteArray := ⟨(beN N).toArray⟩
def icells (ns : List Nat) : List Value := (List.range (2 * ns.length)).map fun j => if j % 2 = 0 then .bool false else .string (mg (ns.getD (j / 2) 0))
theorem icells_len (ns : List Nat) : (icells ns).length = 2 * ns.length := by simp [icells]
/-- block g is just the integers ns, not frozen -/
def IRow (w : World) (g : Nat) (ns : List Nat) : Prop := w.heap[g]? = some (.cells (icells ns).toArray 39 (0, 0))
section
variable {w w' : World} {g : Nat} {ns : List Nat}
theorem IRow.lt (h : IRow w g ns) : g < w.heap.size := by
  rcases Nat.lt_or_ge g w.heap.size with hlt | hge
  · exact hlt
  · unfold IRow at h; rw [Array.getElem?_eq_none hge] at h; cases h
theorem IRow.c0 (h : IRow w g ns) {k : Nat} (hk : k < ns.length) : w.cell? ⟨g, k * 2, none⟩ = some (.bool false) := by
  rw [cell_of_row w g (k * 2) _ 39 (0, 0) h]
  have : k * 2 < 2 * ns.length := by omega
  simp [icells, this]
theorem IRow.c1 (h : IRow w g ns) {k : Nat} (hk : k < ns.length) : w.cell? ⟨g, k * 2 + 1, none⟩ = some (.string (mg (ns.getD k 0))) := by
  rw [cell_of_row w g (k * 2 + 1) _ 39 (0, 0) h]
  have h1 : k * 2 + 1 < 2 * ns.length := by omega
  have h2 : (k * 2 + 1) % 2 = 1 := by omega
  have h3 : (k * 2 + 1) / 2 = k := by omega
  simp [icells, h1, h2, h3]
theorem IRow.free_ (h : IRow w g ns) (j : Nat) : w.frozen? ⟨g, j, none⟩ = false := by
  unfold IRow at h; simp [World.frozen?, h]
theorem icells_set (ns : List Nat) (k v : Nat) (hk : k < ns.length) : ((icells ns).set (k * 2) (.bool false)).set (k * 2 + 1) (.string (mg v)) = icells (ns.set k v) := by
  apply List.ext_getElem
  · simp [icells]
  · intro j h1 h2
    have hj : j < 2 * ns.length := by simpa [icells] using h2
    rw [List.getElem_set, List.getElem_set]
    simp only [icells, List.getElem_map, List.getElem_range]
    by_cases h : k * 2 + 1 = j
    · rw [if_pos h, if_neg (by omega), List.getD_eq_getElem?_getD, List.getElem?_set, if_pos (by omega), if_pos (by omega)]
      rfl
    · rw [if_neg h]
      by_cases h3 : k * 2 = j
      · rw [if_pos h3, if_pos (by omega)]
      · rw [if_neg h3]
        split
        · rfl
        · rw [List.getD_eq_getElem?_getD, List.getD_eq_getElem?_getD, List.getElem?_set, if_neg (by omega)]
theorem IRow.set_ (h : IRow w g ns) {k : Nat} (hk : k < ns.length) (v : Nat) : IRow ((w.setCell ⟨g, k * 2, none⟩ (.bool false)).setCell ⟨g, k * 2 + 1, none⟩ (.string (mg v))) g (ns.set k v) := by
  unfold IRow at h ⊢
  rw [← icells_set ns k v hk]
  simp [World.setCell, Array.getElem?_modify, h]
theorem IRow.below {B : Nat} (h : IRow w g ns) (hb : Below B w w') (hg : g < B) : IRow w' g ns := (hb.block g hg).trans h
theorem IRow.other (h : IRow w g ns) {R : Nat} (hne : g ≠ R) (i j : Nat) (u v : Value) : IRow ((w.setCell ⟨R, i, none⟩ u).setCell ⟨R, j, none⟩ v) g ns := by
  unfold IRow at h ⊢
  rw [Below.heap_setCell _ ⟨R, j, none⟩ _ g hne, Below.heap_setCell _ ⟨R, i, none⟩ _ g hne]
  exact h
theorem Below.pairAt {B' : Nat} {a : World} (h : Below B' a w) (hp : B' ≤ g) (i j : Nat) (u v : Value) : Below B' a ((w.setCell ⟨g, i, none⟩ u).setCell ⟨g, j, none⟩ v) :=
  (h.setCell (p := ⟨g, i, none⟩) hp u).setCell (p := ⟨g, j, none⟩) hp v
end
theorem madeIs (n : Nat) : madeCells (Value.agg #[.bool false, .string ⟨#[]⟩]).cells (n * 2) = (icells (List.replicate n 0)).toArray := by
  have hz : (Value.agg #[.bool false, .string ⟨#[]⟩]).cells = #[.bool false, .string ⟨#[]⟩] := rfl
  rw [hz]
  unfold madeCells
  apply Array.ext
  · simp [icells]; omega
  · intro j h1 h2
    have hj : j < 2 * n := by simp at h1; omega
    have hm : mg 0 = ⟨#[]⟩ := by unfold mg; rw [beN_zero]
    rcases Nat.mod_two_eq_zero_or_one j with h | h
    · simp [icells, h]
    · have : mg ((List.replicate n 0)[j / 2]?.getD 0) = ⟨#[]⟩ := by
        rw [← hm, List.getElem?_replicate]; split <;> rfl
      simp [icells, h, this]
theorem run_make_is (n : Nat) (hn : n ≤ 70000) (w : World) :
    (Instr.makeSlice 69 (.int .i64 (n : Int)) (.int .i64 (n : Int))).run Try.prog w = .ok (.slice (some ⟨w.heap.size, 0, none⟩) n n) (w.alloc (.cells (icells (List.replicate n 0)).toArray 39)) := by
  obtain ⟨i0, hi, hz0, hz1, hz2⟩ := info_parts infoInt2
  have h := run_make (P := Try.prog) w 69 39 i0 _ Try.underlying69 hi hz0 .i64 .i64 n n (by omega) (by omega) (by rw [hz2]; omega) (by omega)
  simp only [Int.toNat_natCast, hz1] at h
  rw [h, madeIs]
theorem IRow.new_ (w : World) (ns : List Nat) : IRow (w.alloc (.cells (icells ns).toArray 39)) w.heap.size ns := heap_alloc_new w _
theorem iAdd_agg (X Y : Nat) (w : World) (hbX : Sml X) (hbY : Sml Y) :
    Calls Try.prog 31 #[.agg #[.bool false, .string (mg X)], .agg #[.bool false, .string (mg Y)]] w fun e w' => e = .returned (.agg #[.bool false, .string (mg (X + Y))]) ∧ Below w.heap.size w w' := iAdd_any X Y w hbX hbY
theorem r1Add_agg (X Y : Nat) (w : World) (hbX : Sml X) (hbY : Sml Y) :
    Calls Try.prog 54 #[.agg #[.bool false, .string (mg X)], .agg #[.bool false, .string (mg Y)]] w fun e w' => e = .returned (.agg #[.bool false, .string (mg (X + Y))]) ∧ Below w.heap.size w w' := r1Add_any X Y w hbX hbY
theorem iOf_agg (n : Nat) (hn : n < 9223372036854775808) (w : World) :
    Calls Try.prog 33 #[.int .i64 n] w fun e w' => e = .returned (.agg #[.bool false, .string (mg n)]) ∧ Below w.heap.size w w' := iOf_any n hn w
theorem r1Of_mg (n : Nat) (hn : n < 9223372036854775808) (w : World) :
    Calls Try.prog 53 #[.int .i64 n] w fun e w' => e = .returned (.agg #[.bool false, .string (mg n)]) ∧ Below w.heap.size w w' := r1Of_any n hn w
end Go.Proofs.Ytijeogengbphdaa
