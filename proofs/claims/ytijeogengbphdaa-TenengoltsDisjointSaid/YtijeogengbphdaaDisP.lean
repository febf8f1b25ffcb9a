/- Plain law of TenengoltsDisjoint: two different words of a code have no result of one deletion in common, and no common subsequence with a letter less. -/
import Derived.Test.YtijeogengbphdaaVT
import Derived.Test.YtijeogengbphdaaConfB
set_option linter.unusedVariables false
namespace Go.Proofs.Ytijeogengbphdaa
open Go.RowKit
theorem disjoint_del {u v : List UInt8} {i j : Nat} (hu : bin u) (hv : bin v) (hs : synd u = synd v) (hi : i < u.length) (hj : j < v.length) (e : DL u i = DL v j) : u = v := by
  have hus : u = u.take i ++ u[i] :: u.drop (i + 1) := by rw [← List.drop_eq_getElem_cons hi, List.take_append_drop]
  have hvs : v = v.take j ++ v[j] :: v.drop (j + 1) := by rw [← List.drop_eq_getElem_cons hj, List.take_append_drop]
  have hb : bin (u.take i ++ u.drop (i + 1)) := fun c hc => by
    rcases List.mem_append.1 hc with h | h
    · exact hu c (List.mem_of_mem_take h)
    · exact hu c (List.mem_of_mem_drop h)
  have := ins_uniq (A := u.take i) (B := u.drop (i + 1)) (A' := v.take j) (B' := v.drop (j + 1)) hb (hu _ (List.getElem_mem hi)) (hv _ (List.getElem_mem hj)) e (by rw [← hus, ← hvs]; exact hs)
  rwa [← hus, ← hvs] at this
theorem disjoint_dels {u v x : ByteArray} (hu : bin u.data.toList) (hv : bin v.data.toList) (hs : synd u.data.toList = synd v.data.toList) (hne : u ≠ v) {ru rv : List ByteArray} (h1 : DelRes u ru) (h2 : DelRes v rv) (hx : x ∈ ru) : ¬ x ∈ rv := fun hy => by
  obtain ⟨i, hi, e1⟩ := dels_mem.1 ((h1.2 x).1 hx)
  obtain ⟨j, hj, e2⟩ := dels_mem.1 ((h2.2 x).1 hy)
  exact hne (ext_data (disjoint_del hu hv hs hi hj (e1.symm.trans e2)))
theorem disjoint_dist {u v : ByteArray} (hu : bin u.data.toList) (hv : bin v.data.toList) (hs : synd u.data.toList = synd v.data.toList) (hl : u.size = v.size) (hne : u ≠ v) : ¬ ((dst u v : Int) ≤ 2 * 1) := fun h => by
  have hdl := dist_lcs u.data.toList v.data.toList
  have hul : u.data.toList.length = u.size := by simp
  have hvl : v.data.toList.length = v.size := by simp
  have hds : dst u v = dist u.data.toList v.data.toList := rfl
  obtain ⟨s, s1, s2, s3⟩ := lcs_ex u.data.toList v.data.toList
  have hpos : 0 < u.size := by
    rcases Nat.eq_zero_or_pos u.size with h0 | h0
    · have e1 : u.data.toList = [] := List.eq_nil_of_length_eq_zero (by omega)
      have e2 : v.data.toList = [] := List.eq_nil_of_length_eq_zero (by omega)
      exact absurd (ext_data (e1.trans e2.symm)) hne
    · exact h0
  have ht : (s.take (u.size - 1)).length = u.size - 1 := by rw [List.length_take]; omega
  have t1 := (List.take_sublist (u.size - 1) s).trans s1
  have t2 := (List.take_sublist (u.size - 1) s).trans s2
  obtain ⟨y, i, y1, y2, y3, y4⟩ := sub_up t1 (by omega)
  obtain ⟨z, j, z1, z2, z3, z4⟩ := sub_up t2 (by omega)
  have ey : y = u.data.toList := y1.eq_of_length (by omega)
  have ez : z = v.data.toList := z1.eq_of_length (by omega)
  rw [ey] at y3 y4
  rw [ez] at z3 z4
  exact hne (ext_data (disjoint_del hu hv hs y3 z3 (y4.symm.trans z4)))
theorem del_cnt {u : ByteArray} {rs : List ByteArray} (h : DelRes u rs) : rs.length = ((List.range u.size).filter (runL u.data.toList)).length := by
  rw [del_count h]
  rfl
end Go.Proofs.Ytijeogengbphdaa
