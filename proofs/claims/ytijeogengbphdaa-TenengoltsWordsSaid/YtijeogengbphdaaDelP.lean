/- Plain law: what one deletion leads to (from XLetP). -/
import Derived.Test.YtijeogengbphdaaDelB
set_option linter.unusedVariables false
namespace Go.Proofs.Ytijeogengbphdaa
open Go.RowKit Go.Maps
theorem ba_ext {a b : ByteArray} (h : a.data.toList = b.data.toList) : a = b := ByteArray.ext (Array.toList_inj.1 h)
theorem delB_list (v : ByteArray) (k : Nat) : (delB v k).data.toList = v.data.toList.take k ++ v.data.toList.drop (k + 1) := by
  unfold delB
  rw [ByteArray.data_append, Array.toList_append, ByteArray.data_extract, ByteArray.data_extract, Array.toList_extract, Array.toList_extract, List.extract_eq_drop_take', List.extract_eq_drop_take', List.drop_zero]
  congr 1
  rw [List.take_of_length_le]
  simp
def DL (w : List UInt8) (i : Nat) : List UInt8 := w.take i ++ w.drop (i + 1)
def JL (w : List UInt8) (i : Nat) (b : UInt8) : List UInt8 := w.take i ++ b :: w.drop i
theorem DL_get (w : List UInt8) (i p : Nat) (hi : i < w.length) : (DL w i)[p]? = if p < i then w[p]? else w[p + 1]? := by
  unfold DL
  rw [List.getElem?_append]
  simp only [List.length_take, Nat.min_eq_left (Nat.le_of_lt hi)]
  split
  · rename_i h; rw [List.getElem?_take_of_lt h]
  · rw [List.getElem?_drop]; congr 1; omega
theorem DL_same (w : List UInt8) (i : Nat) (hi : i + 1 < w.length) (h : w[i + 1]? = w[i]?) : DL w (i + 1) = DL w i := by
  apply List.ext_getElem?
  intro p
  rw [DL_get w (i + 1) p hi, DL_get w i p (by omega)]
  by_cases h1 : p < i
  · rw [if_pos (by omega), if_pos h1]
  · rw [if_neg h1]
    by_cases h2 : p = i
    · subst h2; rw [if_pos (by omega), h]
    · rw [if_neg (by omega)]
def runL (w : List UInt8) (i : Nat) : Bool := decide (i = 0) || (w.getD i 0 != w.getD (i - 1) 0)
theorem getD_some {w : List UInt8} {i : Nat} (h : i < w.length) : w[i]? = some (w.getD i 0) := by
  rw [List.getD_eq_getElem?_getD, List.getElem?_eq_getElem h]; rfl
/-- every deletion is one at the beginning of a run -/
theorem DL_run (w : List UInt8) : ∀ i, i < w.length → ∃ j, j < w.length ∧ runL w j = true ∧ DL w i = DL w j
  | 0, h => ⟨0, h, by simp [runL], rfl⟩
  | i + 1, h => by
    cases hr : runL w (i + 1) with
    | true => exact ⟨i + 1, h, hr, rfl⟩
    | false =>
      obtain ⟨j, h1, h2, h3⟩ := DL_run w i (by omega)
      refine ⟨j, h1, h2, ?_⟩
      rw [← h3]
      apply DL_same w i h
      rw [getD_some h, getD_some (show i < w.length by omega)]
      unfold runL at hr
      simp at hr
      simpa using hr
theorem DL_ne (w : List UInt8) {i j : Nat} (hij : i < j) (hj : j < w.length) (hr : runL w j = true) : DL w i ≠ DL w j := by
  intro e
  have h := congrArg (fun l : List UInt8 => l[j - 1]?) e
  simp only [DL_get w i (j - 1) (by omega), DL_get w j (j - 1) hj] at h
  rw [if_neg (by omega), if_pos (by omega), show j - 1 + 1 = j by omega, getD_some hj, getD_some (show j - 1 < w.length by omega)] at h
  unfold runL at hr
  simp at hr
  rcases hr with hr | hr
  · omega
  · exact hr (by simpa using h)
theorem DL_len (w : List UInt8) (i : Nat) (hi : i < w.length) : (DL w i).length + 1 = w.length := by unfold DL; simp; omega
theorem DL_sub (w : List UInt8) (i : Nat) : (DL w i).Sublist w := by
  unfold DL
  have h := (List.Sublist.refl (w.take i)).append (List.drop_sublist_drop_left w (show i ≤ i + 1 by omega))
  rwa [List.take_append_drop] at h
theorem dels_eq (w : ByteArray) : dels w w.size = ((List.range w.data.toList.length).filter (runL w.data.toList)).map (DL w.data.toList) := by
  unfold dels
  rw [show w.data.toList.length = w.size by simp]
  congr 1
  funext i
  exact delB_list w i
theorem dels_nodup (w : ByteArray) : (dels w w.size).Nodup := by
  rw [dels_eq]
  refine List.pairwise_map.2 ?_
  refine ((List.pairwise_lt_range (n := w.data.toList.length)).filter (runL w.data.toList)).imp_of_mem fun {a b} ha hb hab => ?_
  have hb' := List.mem_filter.1 hb
  exact DL_ne _ hab (List.mem_range.1 hb'.1) hb'.2
theorem dels_mem {w : ByteArray} {x : List UInt8} : x ∈ dels w w.size ↔ ∃ i, i < w.data.toList.length ∧ x = DL w.data.toList i := by
  rw [dels_eq]
  constructor
  · intro h
    obtain ⟨i, hi, rfl⟩ := List.mem_map.1 h
    exact ⟨i, List.mem_range.1 (List.mem_filter.1 hi).1, rfl⟩
  · rintro ⟨i, hi, rfl⟩
    obtain ⟨j, h1, h2, h3⟩ := DL_run _ i hi
    rw [h3]
    exact List.mem_map.2 ⟨j, List.mem_filter.2 ⟨List.mem_range.2 h1, h2⟩, rfl⟩
theorem res_len {rs : List ByteArray} {l : List (List UInt8)} (h1 : rs.Pairwise (fun a b => a.data.toList < b.data.toList)) (h2 : ∀ x : ByteArray, x ∈ rs ↔ x.data.toList ∈ l) (hn : l.Nodup) : rs.length = l.length := by
  have hnd : (rs.map (fun x => x.data.toList)).Nodup := List.pairwise_map.2 (h1.imp fun {a b} hab (e : a.data.toList = b.data.toList) => by rw [e] at hab; exact List.lt_irrefl _ hab)
  have := ((List.perm_ext_iff_of_nodup hnd hn).2 fun x => by
    constructor
    · intro hx
      obtain ⟨y, hy, rfl⟩ := List.mem_map.1 hx
      exact (h2 y).1 hy
    · intro hx
      exact List.mem_map.2 ⟨⟨x.toArray⟩, (h2 _).2 (by simpa using hx), by simp⟩).length_eq
  simpa using this
theorem del_count {w : ByteArray} {rs : List ByteArray} (h : DelRes w rs) : rs.length = ((List.range w.size).filter (runAt w)).length := by
  rw [res_len h.1 h.2 (dels_nodup w)]
  unfold dels
  rw [List.length_map]
end Go.Proofs.Ytijeogengbphdaa
