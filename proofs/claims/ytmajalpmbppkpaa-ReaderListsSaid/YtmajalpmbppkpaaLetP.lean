/- Plain law: how many words come of one deletion or insertion, and that each is the opposite of the other. -/
import Derived.Test.YtmajalpmbppkpaaL47a
import Derived.Test.YtmajalpmbppkpaaIns
set_option linter.unusedVariables false
namespace Go.Proofs.Ytmajalpmbppkpaa
open Go.RowKit Go.Maps
def DL (w : List UInt8) (i : Nat) : List UInt8 := w.take i ++ w.drop (i + 1)
def JL (w : List UInt8) (i : Nat) (b : UInt8) : List UInt8 := w.take i ++ b :: w.drop i
theorem DL_get (w : List UInt8) (i p : Nat) (hi : i < w.length) : (DL w i)[p]? = if p < i then w[p]? else w[p + 1]? := by
  unfold DL
  rw [List.getElem?_append]
  simp only [List.length_take, Nat.min_eq_left (Nat.le_of_lt hi)]
  split
  · rename_i h; rw [List.getElem?_take_of_lt h]
  · rw [List.getElem?_drop]; congr 1; omega
theorem JL_get (w : List UInt8) (i p : Nat) (b : UInt8) (hi : i ≤ w.length) : (JL w i b)[p]? = if p < i then w[p]? else if p = i then some b else w[p - 1]? := by
  unfold JL
  rw [List.getElem?_append]
  simp only [List.length_take, Nat.min_eq_left hi]
  split
  · rename_i h; rw [List.getElem?_take_of_lt h]
  · split
    · rename_i h; subst h; simp
    · rw [show p - i = (p - i - 1) + 1 by omega, List.getElem?_cons_succ, List.getElem?_drop]; congr 1; omega
theorem DL_same (w : List UInt8) (i : Nat) (hi : i + 1 < w.length) (h : w[i + 1]? = w[i]?) : DL w (i + 1) = DL w i := by
  apply List.ext_getElem?
  intro p
  rw [DL_get w (i + 1) p hi, DL_get w i p (by omega)]
  by_cases h1 : p < i
  · rw [if_pos (by omega), if_pos h1]
  · rw [if_neg h1]
    by_cases h2 : p = i
    · subst h2; rw [if_pos (by omega), h]
    · rw [if_neg (by omega)]
theorem JL_same (w : List UInt8) (i : Nat) (b : UInt8) (hi : i + 1 ≤ w.length) (h : w[i]? = some b) : JL w (i + 1) b = JL w i b := by
  apply List.ext_getElem?
  intro p
  rw [JL_get w (i + 1) p b hi, JL_get w i p b (by omega)]
  by_cases h1 : p < i
  · rw [if_pos (by omega), if_pos h1]
  · rw [if_neg h1]
    by_cases h2 : p = i
    · subst h2; rw [if_pos (by omega), if_pos rfl, h]
    · rw [if_neg (by omega), if_neg h2]
      by_cases h3 : p = i + 1
      · subst h3; rw [if_pos rfl]; simpa using h.symm
      · rw [if_neg h3]
def runL (w : List UInt8) (i : Nat) : Bool := decide (i = 0) || (w.getD i 0 != w.getD (i - 1) 0)
theorem getD_some {w : List UInt8} {i : Nat} (h : i < w.length) : w[i]? = some (w.getD i 0) := by
  rw [List.getD_eq_getElem?_getD, List.getElem?_eq_getElem h]; rfl
/-- every deletion is one at the beginning of a run -/
theorem DL_run (w : List UInt8) : ∀ i, i < w.length → ∃ j, j < w.length ∧ runL w j = true ∧ DL w i = DL w j
  | 0, h => ⟨0, h, by simp [runL], rfl⟩
  | i + 1, h => by
    cases hr : runL w (i + 1) with
    | true => exact ⟨i + 1, h, hr, rfl⟩
    | false =>
      obtain ⟨j, h1, h2, h3⟩ := DL_run w i (by omega)
      refine ⟨j, h1, h2, ?_⟩
      rw [← h3]
      apply DL_same w i h
      rw [getD_some h, getD_some (show i < w.length by omega)]
      unfold runL at hr
      simp at hr
      simpa using hr
theorem DL_ne (w : List UInt8) {i j : Nat} (hij : i < j) (hj : j < w.length) (hr : runL w j = true) : DL w i ≠ DL w j := by
  intro e
  have h := congrArg (fun l : List UInt8 => l[j - 1]?) e
  simp only [DL_get w i (j - 1) (by omega), DL_get w j (j - 1) hj] at h
  rw [if_neg (by omega), if_pos (by omega), show j - 1 + 1 = j by omega, getD_some hj, getD_some (show j - 1 < w.length by omega)] at h
  unfold runL at hr
  simp at hr
  rcases hr with hr | hr
  · omega
  · exact hr (by simpa using h)
theorem JL_ne (w : List UInt8) {i j : Nat} {b d : UInt8} (hij : i < j) (hj : j ≤ w.length) (hd : w.getD (j - 1) 0 ≠ d) : JL w i b ≠ JL w j d := by
  intro e
  have h := congrArg (fun l : List UInt8 => l[j]?) e
  simp only [JL_get w i j b (by omega), JL_get w j j d hj] at h
  rw [if_neg (by omega), if_neg (by omega), if_neg (by omega), if_pos trivial, getD_some (show j - 1 < w.length by omega)] at h
  exact hd (by simpa using h)
theorem JL_inj (w : List UInt8) {i : Nat} {b d : UInt8} (hi : i ≤ w.length) (e : JL w i b = JL w i d) : b = d := by
  have h := congrArg (fun l : List UInt8 => l[i]?) e
  simp only [JL_get w i i b hi, JL_get w i i d hi] at h
  simpa using h
theorem JL_DL (w : List UInt8) (i : Nat) (hi : i < w.length) : JL (DL w i) i w[i] = w := by
  unfold JL DL
  have h1 : (w.take i).length = i := by simp; omega
  rw [List.take_append_of_le_length (by omega), List.take_of_length_le (by omega), List.drop_append_of_le_length (by omega), List.drop_of_length_le (l := w.take i) (by omega), List.nil_append, ← List.drop_eq_getElem_cons hi, List.take_append_drop]
theorem DL_JL (w : List UInt8) (i : Nat) (b : UInt8) (hi : i ≤ w.length) : DL (JL w i b) i = w := by
  unfold JL DL
  have h1 : (w.take i).length = i := by simp; omega
  rw [List.take_append_of_le_length (by omega), List.take_of_length_le (by omega), List.drop_append, List.drop_of_length_le (l := w.take i) (by omega), h1, show i + 1 - i = 1 by omega]
  simp
theorem DL_len (w : List UInt8) (i : Nat) (hi : i < w.length) : (DL w i).length + 1 = w.length := by unfold DL; simp; omega
theorem JL_len (w : List UInt8) (i : Nat) (b : UInt8) (hi : i ≤ w.length) : (JL w i b).length = w.length + 1 := by unfold JL; simp; omega
theorem DL_sub (w : List UInt8) (i : Nat) : (DL w i).Sublist w := by
  unfold DL
  have h := (List.Sublist.refl (w.take i)).append (List.drop_sublist_drop_left w (show i ≤ i + 1 by omega))
  rwa [List.take_append_drop] at h
theorem JL_sub (w : List UInt8) (i : Nat) (b : UInt8) (hi : i ≤ w.length) : w.Sublist (JL w i b) := by
  have h := DL_sub (JL w i b) i
  rwa [DL_JL w i b hi] at h
theorem DL_mem {w : List UInt8} {i : Nat} {c : UInt8} (h : c ∈ DL w i) : c ∈ w := (DL_sub w i).subset h
def can (w : List UInt8) (i c : Nat) : Bool := decide (i = 0) || (lets.getD c 0 != w.getD (i - 1) 0)
def canon (w : List UInt8) (q : Nat) : List (List UInt8) := (List.range (w.length + 1)).flatMap fun i => ((List.range q).filter (can w i)).map fun c => JL w i (lets.getD c 0)
def inL (w : List UInt8) (q : Nat) (x : List UInt8) : Prop := ∃ i c, i ≤ w.length ∧ c < q ∧ x = JL w i (lets.getD c 0)
theorem mem_canon {w : List UInt8} {q : Nat} {x : List UInt8} : x ∈ canon w q ↔ ∃ i c, i ≤ w.length ∧ c < q ∧ can w i c = true ∧ x = JL w i (lets.getD c 0) := by
  unfold canon
  simp only [List.mem_flatMap, List.mem_map, List.mem_filter, List.mem_range]
  constructor
  · rintro ⟨i, hi, c, ⟨hc, hcan⟩, rfl⟩
    exact ⟨i, c, by omega, hc, hcan, rfl⟩
  · rintro ⟨i, c, hi, hc, hcan, rfl⟩
    exact ⟨i, by omega, c, ⟨hc, hcan⟩, rfl⟩
theorem canon_all (w : List UInt8) (q : Nat) (c : Nat) (hc : c < q) : ∀ i, i ≤ w.length → JL w i (lets.getD c 0) ∈ canon w q
  | 0, h => mem_canon.2 ⟨0, c, h, hc, by simp [can], rfl⟩
  | i + 1, h => by
    cases hcan : can w (i + 1) c with
    | true => exact mem_canon.2 ⟨i + 1, c, h, hc, hcan, rfl⟩
    | false =>
      unfold can at hcan
      simp at hcan
      rw [JL_same w i _ h (by rw [getD_some (show i < w.length by omega)]; simpa using hcan.symm)]
      exact canon_all w q c hc i (by omega)
theorem mem_canon_iff {w : List UInt8} {q : Nat} {x : List UInt8} : x ∈ canon w q ↔ inL w q x := by
  constructor
  · intro h
    obtain ⟨i, c, h1, h2, _, h3⟩ := mem_canon.1 h
    exact ⟨i, c, h1, h2, h3⟩
  · rintro ⟨i, c, h1, h2, rfl⟩
    exact canon_all w q c h2 i h1
theorem lets_inj : ∀ c : Fin 16, ∀ d : Fin 16, lets.getD c.1 0 = lets.getD d.1 0 → c = d := by decide +kernel
theorem canon_nodup (w : List UInt8) (q : Nat) (hq : q ≤ 16) : (canon w q).Nodup := by
  unfold canon List.Nodup
  rw [List.pairwise_flatMap]
  refine ⟨fun i hi => ?_, ?_⟩
  · have hi' : i ≤ w.length := by have := List.mem_range.1 hi; omega
    refine List.pairwise_map.2 ?_
    refine ((List.nodup_range (n := q)).filter (can w i)).imp_of_mem fun {a b} ha hb hab e => hab ?_
    have ha' := List.mem_range.1 (List.mem_filter.1 ha).1
    have hb' := List.mem_range.1 (List.mem_filter.1 hb).1
    have := lets_inj ⟨a, by omega⟩ ⟨b, by omega⟩ (JL_inj w hi' e)
    simpa using this
  · refine (List.pairwise_lt_range (n := w.length + 1)).imp_of_mem fun {i j} hi hj hij x hx y hy e => ?_
    obtain ⟨c, _, rfl⟩ := List.mem_map.1 hx
    obtain ⟨d, hd, rfl⟩ := List.mem_map.1 hy
    have hj' : j ≤ w.length := by have := List.mem_range.1 hj; omega
    have hcan := (List.mem_filter.1 hd).2
    unfold can at hcan
    simp at hcan
    rcases hcan with h | h
    · omega
    · exact JL_ne w hij hj' (by simpa using fun e => h e.symm) e
theorem count_no : ∀ q : Fin 17, ∀ e : Fin 16, e.1 < q.1 → ((List.range q.1).filter (fun c => lets.getD c 0 != lets.getD e.1 0)).length = q.1 - 1 := by decide +kernel
theorem flat_len {f : Nat → List (List UInt8)} {m : Nat} : ∀ n, (∀ i, 1 ≤ i → i ≤ n → (f i).length = m) → ((List.range (n + 1)).flatMap f).length = (f 0).length + n * m
  | 0, _ => by simp
  | n + 1, h => by
    rw [List.range_succ, List.flatMap_append, List.length_append, flat_len n fun i h1 h2 => h i h1 (by omega)]
    simp [h (n + 1) (by omega) (Nat.le_refl _)]
    rw [Nat.add_mul]; omega
theorem okc_lets2 : ∀ q : Fin 17, ∀ c : Fin 256, okc q.1 (UInt8.ofNat c.1) = true → ∃ e : Fin 16, e.1 < q.1 ∧ UInt8.ofNat c.1 = lets.getD e.1 0 := by decide +kernel
theorem okc_get {q : Nat} (hq : q ≤ 16) {c : UInt8} (h : okc q c = true) : ∃ e, e < q ∧ e < 16 ∧ c = lets.getD e 0 := by
  have := okc_lets2 ⟨q, by omega⟩ ⟨c.toNat, c.toNat_lt⟩
  simp only [UInt8.ofNat_toNat] at this
  obtain ⟨e, h1, h2⟩ := this h
  exact ⟨e.1, h1, e.2, h2⟩
theorem okc_back : ∀ q : Fin 17, ∀ e : Fin 16, e.1 < q.1 → okc q.1 (lets.getD e.1 0) = true := by decide +kernel
theorem canon_len (w : List UInt8) (q : Nat) (hq : q ≤ 16) (hw : ∀ c ∈ w, okc q c = true) : (canon w q).length = w.length * (q - 1) + q := by
  unfold canon
  rw [flat_len w.length (m := q - 1) ?_]
  · rw [show (List.range q).filter (can w 0) = List.range q from List.filter_eq_self.2 (fun a _ => by simp [can])]
    simp; omega
  · intro i h1 h2
    rw [List.length_map]
    have hb : w.getD (i - 1) 0 ∈ w := by
      have hl : i - 1 < w.length := by omega
      rw [List.getD_eq_getElem?_getD, List.getElem?_eq_getElem hl]
      exact List.getElem_mem hl
    obtain ⟨e, he, he16, hee⟩ := okc_get hq (hw _ hb)
    have := count_no ⟨q, by omega⟩ ⟨e, he16⟩ he
    rw [← this]
    congr 2
    funext c
    unfold can
    rw [hee]
    simp
    omega
theorem dels_eq (w : ByteArray) : dels w w.size = ((List.range w.data.toList.length).filter (runL w.data.toList)).map (DL w.data.toList) := by
  unfold dels
  rw [show w.data.toList.length = w.size by simp]
  congr 1
  funext i
  exact delB_list w i
theorem dels_nodup (w : ByteArray) : (dels w w.size).Nodup := by
  rw [dels_eq]
  refine List.pairwise_map.2 ?_
  refine ((List.pairwise_lt_range (n := w.data.toList.length)).filter (runL w.data.toList)).imp_of_mem fun {a b} ha hb hab => ?_
  have hb' := List.mem_filter.1 hb
  exact DL_ne _ hab (List.mem_range.1 hb'.1) hb'.2
theorem dels_mem {w : ByteArray} {x : List UInt8} : x ∈ dels w w.size ↔ ∃ i, i < w.data.toList.length ∧ x = DL w.data.toList i := by
  rw [dels_eq]
  constructor
  · intro h
    obtain ⟨i, hi, rfl⟩ := List.mem_map.1 h
    exact ⟨i, List.mem_range.1 (List.mem_filter.1 hi).1, rfl⟩
  · rintro ⟨i, hi, rfl⟩
    obtain ⟨j, h1, h2, h3⟩ := DL_run _ i hi
    rw [h3]
    exact List.mem_map.2 ⟨j, List.mem_filter.2 ⟨List.mem_range.2 h1, h2⟩, rfl⟩
theorem insC_list (s : ByteArray) (i c : Nat) (hi : i ≤ s.size) (hc : c < 16) : (insC s i c).data.toList = JL s.data.toList i (lets.getD c 0) := by
  have h : ∀ d : Fin 16, ((⟨#[48, 49, 50, 51, 52, 53, 54, 55, 56, 57, 97, 98, 99, 100, 101, 102]⟩ : ByteArray).extract d.1 (d.1 + 1)).data.toList = [lets.getD d.1 0] := by decide +kernel
  unfold insC JL
  rw [ByteArray.data_append, ByteArray.data_append, Array.toList_append, Array.toList_append, h ⟨c, hc⟩]
  have h1 : (s.extract 0 i).data.toList = s.data.toList.take i := by
    rw [ByteArray.data_extract, Array.toList_extract, List.extract_eq_drop_take', List.drop_zero]
  have h2 : (s.extract i s.size).data.toList = s.data.toList.drop i := by
    rw [ByteArray.data_extract, Array.toList_extract, List.extract_eq_drop_take', List.take_of_length_le (by simp)]
  rw [h1, h2]
  simp
theorem inss_mem {s : ByteArray} {q : Nat} (hq : q ≤ 16) {x : List UInt8} : x ∈ inss s q (s.size + 1) ↔ inL s.data.toList q x := by
  unfold inss insRow inL
  simp only [List.mem_flatMap, List.mem_map, List.mem_range]
  constructor
  · rintro ⟨i, hi, c, hc, rfl⟩
    exact ⟨i, c, by simp; omega, hc, insC_list s i c (by omega) (by omega)⟩
  · rintro ⟨i, c, hi, hc, rfl⟩
    have hi' : i ≤ s.size := by simpa using hi
    exact ⟨i, by omega, c, hc, insC_list s i c hi' (by omega)⟩
theorem res_len {rs : List ByteArray} {l : List (List UInt8)} (h1 : rs.Pairwise (fun a b => a.data.toList < b.data.toList)) (h2 : ∀ x : ByteArray, x ∈ rs ↔ x.data.toList ∈ l) (hn : l.Nodup) : rs.length = l.length := by
  have hnd : (rs.map (fun x => x.data.toList)).Nodup := List.pairwise_map.2 (h1.imp fun {a b} hab (e : a.data.toList = b.data.toList) => by rw [e] at hab; exact List.lt_irrefl _ hab)
  have := ((List.perm_ext_iff_of_nodup hnd hn).2 fun x => by
    constructor
    · intro hx
      obtain ⟨y, hy, rfl⟩ := List.mem_map.1 hx
      exact (h2 y).1 hy
    · intro hx
      exact List.mem_map.2 ⟨⟨x.toArray⟩, (h2 _).2 (by simpa using hx), by simp⟩).length_eq
  simpa using this
theorem del_count {w : ByteArray} {rs : List ByteArray} (h : DelRes w rs) : rs.length = ((List.range w.size).filter (runAt w)).length := by
  rw [res_len h.1 h.2 (dels_nodup w)]
  unfold dels
  rw [List.length_map]
theorem ins_count {w : ByteArray} {q : Nat} {rs : List ByteArray} (hq : q ≤ 16) (hw : ∀ c ∈ w.data.toList, okc q c = true) (h : InsRes q w rs) : rs.length = w.size * (q - 1) + q := by
  rw [res_len (l := canon w.data.toList q) h.1 (fun x => by rw [h.2 x, inss_mem hq, mem_canon_iff]) (canon_nodup _ q hq), canon_len _ q hq hw]
  simp
/-- what Insertions at a deletion, and Deletions at an insertion, hold -/
theorem back_ins {w x : ByteArray} {q : Nat} (hq : q ≤ 16) (hw : ∀ c ∈ w.data.toList, okc q c = true) (hx : x.data.toList ∈ dels w w.size) :
    x.size + 1 = w.size ∧ x.data.toList.Sublist w.data.toList ∧ (∀ c ∈ x.data.toList, okc q c = true) ∧ w.data.toList ∈ inss x q (x.size + 1) := by
  obtain ⟨i, hi, he⟩ := dels_mem.1 hx
  refine ⟨?_, ?_, ?_, ?_⟩
  · have := DL_len _ i hi
    rw [← he] at this
    simpa using this
  · rw [he]; exact DL_sub _ i
  · intro c hc
    rw [he] at hc
    exact hw c (DL_mem hc)
  · rw [inss_mem hq, he]
    obtain ⟨e, h1, h2, h3⟩ := okc_get hq (hw _ (List.getElem_mem hi))
    refine ⟨i, e, ?_, h1, ?_⟩
    · have := DL_len _ i hi
      omega
    · rw [← h3, JL_DL _ i hi]
theorem back_del {w x : ByteArray} {q : Nat} (hq : q ≤ 16) (hw : ∀ c ∈ w.data.toList, okc q c = true) (hx : x.data.toList ∈ inss w q (w.size + 1)) :
    x.size = w.size + 1 ∧ w.data.toList.Sublist x.data.toList ∧ (∀ c ∈ x.data.toList, okc q c = true) ∧ w.data.toList ∈ dels x x.size := by
  obtain ⟨i, c, hi, hc, he⟩ := (inss_mem hq).1 hx
  refine ⟨?_, ?_, ?_, ?_⟩
  · have := JL_len _ i (lets.getD c 0) hi
    rw [← he] at this
    simpa using this
  · rw [he]; exact JL_sub _ i _ hi
  · intro d hd
    rw [he] at hd
    unfold JL at hd
    rcases List.mem_append.1 hd with hd | hd
    · exact hw d (List.mem_of_mem_take hd)
    · rcases List.mem_cons.1 hd with rfl | hd
      · exact okc_back ⟨q, by omega⟩ ⟨c, by omega⟩ hc
      · exact hw d (List.mem_of_mem_drop hd)
  · rw [dels_mem, he]
    refine ⟨i, ?_, (DL_JL _ i _ hi).symm⟩
    rw [JL_len _ i _ hi]; omega
end Go.Proofs.Ytmajalpmbppkpaa
