/- The plain law of the Varshamov-Tenengolts codes: a word is determined by its syndrome and one deletion, or one insertion. No Go here but for the functions of XTen and XRCor. -/
import Derived.Test.YtijeogengbphdaaRCor
set_option linter.unusedVariables false
namespace Go.Proofs.Ytijeogengbphdaa
open Go.RowKit
def ones : List UInt8 → Nat
  | [] => 0
  | c :: l => (if c = 49 then 1 else 0) + ones l
def bin (l : List UInt8) : Prop := ∀ c ∈ l, c = 48 ∨ c = 49
theorem ones_app (a b : List UInt8) : ones (a ++ b) = ones a + ones b := by
  induction a with
  | nil => simp [ones]
  | cons c a ih => simp only [List.cons_append, ones, ih]; omega
theorem ones_le (l : List UInt8) : ones l ≤ l.length := by
  induction l with
  | nil => simp [ones]
  | cons c l ih => simp only [ones, List.length_cons]; split <;> omega
theorem sumS_shift (l : List UInt8) : ∀ i, sumS l (i + 1) = sumS l i + ones l := by
  induction l with
  | nil => intro i; rfl
  | cons c l ih => intro i; simp only [sumS, ones, ih]; split <;> omega
theorem sumS_app (a b : List UInt8) : ∀ i, sumS (a ++ b) i = sumS a i + sumS b (i + a.length) := by
  induction a with
  | nil => intro i; simp [sumS]
  | cons c a ih => intro i; simp only [List.cons_append, sumS, ih, List.length_cons]; rw [show i + 1 + a.length = i + (a.length + 1) by omega]; omega
/-- what a letter c between A and B adds to the sum -/
def gain (A : List UInt8) (c : UInt8) (B : List UInt8) : Nat := ones B + if c = 49 then A.length + 1 else 0
theorem sumS_put (A : List UInt8) (c : UInt8) (B : List UInt8) : sumS (A ++ c :: B) 0 = sumS (A ++ B) 0 + gain A c B := by
  rw [sumS_app, sumS_app]
  simp only [sumS, Nat.zero_add, gain, sumS_shift]
  omega
theorem gain_le (A : List UInt8) (c : UInt8) (B : List UInt8) : gain A c B ≤ A.length + B.length + 1 := by
  have := ones_le B
  unfold gain; split <;> omega
theorem all_zero {l : List UInt8} (hb : bin l) (h : ones l = 0) : l = List.replicate l.length 48 := by
  induction l with
  | nil => rfl
  | cons c l ih =>
    simp only [ones] at h
    have hc : c = 48 := by
      rcases hb c (by simp) with e | e
      · exact e
      · rw [if_pos e] at h; omega
    subst hc
    have := ih (fun d hd => hb d (by simp [hd])) (by omega)
    rw [List.length_cons, List.replicate_succ, ← this]
theorem all_one {l : List UInt8} (h : ones l = l.length) : l = List.replicate l.length 49 := by
  induction l with
  | nil => rfl
  | cons c l ih =>
    simp only [ones, List.length_cons] at h
    have hl := ones_le l
    have hc : c = 49 := by
      by_cases e : c = 49
      · exact e
      · rw [if_neg e] at h; omega
    subst hc
    have := ih (by simp at h; omega)
    rw [List.length_cons, List.replicate_succ, ← this]
theorem rep_move (c : UInt8) (n : Nat) : c :: List.replicate n c = List.replicate n c ++ [c] := by
  rw [← List.replicate_succ, List.replicate_succ']
theorem c01 {c : UInt8} (h : c = 48 ∨ c = 49) : c = 49 ∨ (c = 48 ∧ c ≠ 49) := by
  rcases h with h | h
  · right; exact ⟨h, by rw [h]; decide⟩
  · left; exact h
/-- two insertions into one word that gain the same are the same -/
theorem ins_uniq_le {A B C B' : List UInt8} {b b' : UInt8} (hb : b = 48 ∨ b = 49) (hb' : b' = 48 ∨ b' = 49) (hC : bin C) (hB : B = C ++ B') (hg : gain A b B = gain (A ++ C) b' B') :
    A ++ b :: B = (A ++ C) ++ b' :: B' := by
  subst hB
  have hl := ones_le C
  simp only [gain, ones_app, List.length_append] at hg
  rcases c01 hb with rfl | ⟨rfl, hn⟩
  · rcases c01 hb' with rfl | ⟨rfl, hn'⟩
    · simp only [if_true] at hg
      have h1 := all_one (l := C) (by omega)
      rw [h1]
      have := rep_move 49 C.length
      simp only [List.append_assoc]
      rw [← List.cons_append, this]; simp
    · rw [if_pos rfl, if_neg hn'] at hg; omega
  · rcases c01 hb' with rfl | ⟨rfl, hn'⟩
    · rw [if_neg hn, if_pos rfl] at hg; omega
    · rw [if_neg hn, if_neg hn] at hg
      have h1 := all_zero hC (by omega)
      rw [h1]
      have := rep_move 48 C.length
      simp only [List.append_assoc]
      rw [← List.cons_append, this]; simp
theorem ins_uniq {A B A' B' : List UInt8} {b b' : UInt8} (hx : bin (A ++ B)) (hb : b = 48 ∨ b = 49) (hb' : b' = 48 ∨ b' = 49) (h : A ++ B = A' ++ B')
    (hs : synd (A ++ b :: B) = synd (A' ++ b' :: B')) : A ++ b :: B = A' ++ b' :: B' := by
  have hlen : (A ++ b :: B).length = (A' ++ b' :: B').length := by
    have := congrArg List.length h
    simp only [List.length_append, List.length_cons] at this ⊢; omega
  have hg : gain A b B = gain A' b' B' := by
    unfold synd at hs
    rw [← hlen, sumS_put, sumS_put, ← h] at hs
    have l1 := gain_le A b B
    have l2 := gain_le A' b' B'
    have e1 : (A ++ b :: B).length = A.length + B.length + 1 := by simp; omega
    have e2 : A.length + B.length = A'.length + B'.length := by have := congrArg List.length h; simpa using this
    rw [e1] at hs
    generalize sumS (A ++ B) 0 = S at hs
    have m1 := Nat.div_add_mod (S + gain A b B) (A.length + B.length + 1 + 1)
    have m2 := Nat.div_add_mod (S + gain A' b' B') (A.length + B.length + 1 + 1)
    rw [hs] at m1
    generalize (S + gain A b B) / (A.length + B.length + 1 + 1) = q1 at m1
    generalize (S + gain A' b' B') / (A.length + B.length + 1 + 1) = q2 at m2
    generalize (S + gain A' b' B') % (A.length + B.length + 1 + 1) = r at m1 m2
    have hq : q1 = q2 := by
      rcases Nat.lt_trichotomy q1 q2 with hq | hq | hq
      · have := Nat.mul_le_mul_left (A.length + B.length + 1 + 1) (show q1 + 1 ≤ q2 from hq)
        rw [Nat.mul_add] at this; omega
      · exact hq
      · have := Nat.mul_le_mul_left (A.length + B.length + 1 + 1) (show q2 + 1 ≤ q1 from hq)
        rw [Nat.mul_add] at this; omega
    subst hq; omega
  rcases Nat.le_total A.length A'.length with hl | hl
  · obtain ⟨C, hC, hB⟩ : ∃ C, A' = A ++ C ∧ B = C ++ B' := by
      rcases List.append_eq_append_iff.1 h with ⟨C, h1, h2⟩ | ⟨C, h1, h2⟩
      · exact ⟨C, h1, h2⟩
      · have : C = [] := List.eq_nil_of_length_eq_zero (by have := congrArg List.length h1; simp at this; omega)
        subst this; exact ⟨[], by simpa using h1.symm, by simpa using h2.symm⟩
    subst hC
    exact ins_uniq_le hb hb' (fun c hc => hx c (by rw [hB]; simp [hc])) hB hg
  · obtain ⟨C, hC, hB⟩ : ∃ C, A = A' ++ C ∧ B' = C ++ B := by
      rcases List.append_eq_append_iff.1 h.symm with ⟨C, h1, h2⟩ | ⟨C, h1, h2⟩
      · exact ⟨C, h1, h2⟩
      · have : C = [] := List.eq_nil_of_length_eq_zero (by have := congrArg List.length h1; simp at this; omega)
        subst this; exact ⟨[], by simpa using h1.symm, by simpa using h2.symm⟩
    subst hC
    exact (ins_uniq_le hb' hb (fun c hc => hx c (by simp [hc])) hB hg.symm).symm
/-- numbers that agree modulo m and are less than m apart are equal -/
theorem mod_close {a b m : Nat} (h : a % m = b % m) (h1 : a ≤ b) (h2 : b < a + m) : a = b := by
  have m1 := Nat.div_add_mod a m
  have m2 := Nat.div_add_mod b m
  rw [h] at m1
  generalize a / m = q1 at m1
  generalize b / m = q2 at m2
  generalize b % m = r at m1 m2
  rcases Nat.lt_trichotomy q1 q2 with hq | hq | hq
  · have := Nat.mul_le_mul_left m (show q1 + 1 ≤ q2 from hq)
    rw [Nat.mul_add] at this; omega
  · subst hq; omega
  · have := Nat.mul_le_mul_left m (show q2 + 1 ≤ q1 from hq)
    rw [Nat.mul_add] at this; omega
/-- two deletions of one word with the same syndrome are the same -/
theorem del_uniq_lt {A C B' : List UInt8} {b b' : UInt8} (hb : b = 48 ∨ b = 49) (hb' : b' = 48 ∨ b' = 49) (hC : bin C)
    (hs : synd (A ++ (C ++ b' :: B')) = synd ((A ++ b :: C) ++ B')) : A ++ (C ++ b' :: B') = (A ++ b :: C) ++ B' := by
  have hl := ones_le C
  have e1 : sumS (A ++ (C ++ b' :: B')) 0 = sumS (A ++ (C ++ B')) 0 + gain (A ++ C) b' B' := by
    rw [← List.append_assoc, sumS_put, List.append_assoc]
  have e2 : sumS ((A ++ b :: C) ++ B') 0 = sumS (A ++ (C ++ B')) 0 + gain A b (C ++ B') := by
    rw [List.append_assoc, List.cons_append, sumS_put]
  have el : (A ++ (C ++ b' :: B')).length = A.length + C.length + B'.length + 1 := by simp; omega
  have el2 : ((A ++ b :: C) ++ B').length = A.length + C.length + B'.length + 1 := by simp; omega
  unfold synd at hs
  rw [el, el2, e1, e2] at hs
  simp only [gain, ones_app, List.length_append] at hs
  rcases c01 hb with rfl | ⟨rfl, hn⟩
  · rcases c01 hb' with rfl | ⟨rfl, hn'⟩
    · simp only [if_true] at hs
      have := mod_close hs.symm (by omega) (by omega)
      have h1 := all_one (l := C) (by omega)
      rw [h1]
      have := rep_move 49 C.length
      simp only [List.append_assoc]
      rw [this]; simp
    · rw [if_pos rfl, if_neg hn'] at hs
      have := mod_close hs (by omega) (by omega)
      omega
  · rcases c01 hb' with rfl | ⟨rfl, hn'⟩
    · rw [if_neg hn, if_pos rfl] at hs
      have := mod_close hs.symm (by omega) (by omega)
      omega
    · rw [if_neg hn, if_neg hn] at hs
      have := mod_close hs (by omega) (by omega)
      have h1 := all_zero hC (by omega)
      rw [h1]
      have := rep_move 48 C.length
      simp only [List.append_assoc]
      rw [this]; simp
theorem del_uniq {A B A' B' : List UInt8} {b b' : UInt8} (hx : bin (A ++ b :: B)) (h : A ++ b :: B = A' ++ b' :: B') (hs : synd (A ++ B) = synd (A' ++ B')) : A ++ B = A' ++ B' := by
  have hb : b = 48 ∨ b = 49 := hx b (by simp)
  have hb' : b' = 48 ∨ b' = 49 := hx b' (by rw [h]; simp)
  have hlen := congrArg List.length h
  simp only [List.length_append, List.length_cons] at hlen
  rcases Nat.lt_trichotomy A.length A'.length with hl | hl | hl
  · obtain ⟨D, h1, h2⟩ : ∃ D, A' = A ++ D ∧ b :: B = D ++ b' :: B' := by
      rcases List.append_eq_append_iff.1 h with ⟨D, h1, h2⟩ | ⟨D, h1, h2⟩
      · exact ⟨D, h1, h2⟩
      · have := congrArg List.length h1; simp at this; omega
    cases D with
    | nil => simp at h1; rw [h1] at hl; omega
    | cons d C =>
      simp only [List.cons_append, List.cons.injEq] at h2
      obtain ⟨rfl, rfl⟩ := h2
      subst h1
      exact del_uniq_lt hb hb' (fun c hc => hx c (by simp [hc])) hs
  · obtain ⟨h1, h2⟩ := List.append_inj h hl
    simp only [List.cons.injEq] at h2
    rw [h1, h2.2]
  · obtain ⟨D, h1, h2⟩ : ∃ D, A = A' ++ D ∧ b' :: B' = D ++ b :: B := by
      rcases List.append_eq_append_iff.1 h.symm with ⟨D, h1, h2⟩ | ⟨D, h1, h2⟩
      · exact ⟨D, h1, h2⟩
      · have := congrArg List.length h1; simp at this; omega
    cases D with
    | nil => simp at h1; rw [h1] at hl; omega
    | cons d C =>
      simp only [List.cons_append, List.cons.injEq] at h2
      obtain ⟨rfl, rfl⟩ := h2
      subst h1
      exact (del_uniq_lt hb' hb (fun c hc => hx c (by simp [hc])) hs.symm).symm

/-! ### the words as byte arrays -/
theorem delB_data (s : ByteArray) (k : Nat) : (delB s k).data.toList = s.data.toList.take k ++ s.data.toList.drop (k + 1) := by
  unfold delB
  rw [ByteArray.data_append, Array.toList_append, Lib.extract_data, Lib.extract_data, List.take_of_length_le (l := List.drop (k + 1) s.data.toList) (by simp)]
  simp
theorem insB_data (s : ByteArray) (k : Nat) (c : UInt8) : (insB s k c).data.toList = s.data.toList.take k ++ c :: s.data.toList.drop k := by
  unfold insB
  rw [ByteArray.data_append, Array.toList_append, ByteArray.data_append, Array.toList_append, Lib.extract_data, Lib.extract_data, List.take_of_length_le (l := List.drop k s.data.toList) (by simp)]
  simp
theorem ext_data {a b : ByteArray} (h : a.data.toList = b.data.toList) : a = b := ByteArray.ext (Array.toList_inj.1 h)
theorem okc_two : ∀ c : Fin 256, okc 2 (UInt8.ofNat c.1) = (UInt8.ofNat c.1 == 48 || UInt8.ofNat c.1 == 49) := by decide +kernel
theorem bin_of_chk {l : List UInt8} (h : chk 2 l = 0) : bin l ∧ l.length ≤ 65536 := by
  unfold chk at h
  rw [if_neg (by omega)] at h
  split at h
  · omega
  · split at h
    · rename_i h1 h2
      refine ⟨fun c hc => ?_, by omega⟩
      have h3 := List.all_eq_true.1 h2 c hc
      have h4 := okc_two ⟨c.toNat, c.toNat_lt⟩
      simp only [UInt8.ofNat_toNat] at h4
      rw [h4] at h3
      simpa using h3
    · omega
theorem chk_of_bin {l : List UInt8} (h : bin l) (hl : l.length ≤ 65536) : chk 2 l = 0 := by
  unfold chk
  rw [if_neg (by omega), if_neg (by omega), if_pos]
  refine List.all_eq_true.2 fun c hc => ?_
  have h4 := okc_two ⟨c.toNat, c.toNat_lt⟩
  simp only [UInt8.ofNat_toNat] at h4
  rw [h4]
  rcases h c hc with e | e <;> simp [e]
theorem pick_uniq {a : Int} {L : List ByteArray} {s : ByteArray} (hm : s ∈ L) (ha : ((synd s.data.toList : Nat) : Int) = a) (hu : ∀ u ∈ L, ((synd u.data.toList : Nat) : Int) = a → u = s) : pick a L = (s, 0) := by
  unfold pick
  cases hf : L.find? (fun u => ((synd u.data.toList : Nat) : Int) == a) with
  | none =>
    have := List.find?_eq_none.1 hf s hm
    simp [ha] at this
  | some u =>
    have h1 := List.mem_of_find?_eq_some hf
    have h2 := List.find?_some hf
    rw [hu u h1 (by simpa using h2)]
theorem synd_lt (l : List UInt8) : synd l < l.length + 1 := Nat.mod_lt _ (by omega)
theorem tck_synd (s : ByteArray) (h : s.size ≤ 64) : tck (s.size : Int) ((synd s.data.toList : Nat) : Int) = 0 := by
  have := synd_lt s.data.toList
  have e : s.data.toList.length = s.size := by simp
  rw [e] at this
  unfold tck; rw [if_neg (by omega)]
/-- a word is corrected to itself -/
theorem corr_self (s : ByteArray) (h : s.size ≤ 64) (hc : chk 2 s.data.toList = 0) : corr (s.size : Int) ((synd s.data.toList : Nat) : Int) s = (s, 0) := by
  rw [corr_go (tck_synd s h) hc (by omega) (by omega)]
  have : cands (s.size : Int) s = [s] := by unfold cands; rw [if_pos rfl]
  rw [this]
  exact pick_uniq (by simp) rfl (fun u hu _ => by simpa using hu)
theorem bin_ins {s : ByteArray} {k : Nat} {c : UInt8} (hb : bin s.data.toList) (hc : c = 48 ∨ c = 49) : bin (insB s k c).data.toList := by
  rw [insB_data]
  intro d hd
  rcases List.mem_append.1 hd with h | h
  · exact hb d (List.mem_of_mem_take h)
  · rcases List.mem_cons.1 h with h | h
    · rw [h]; exact hc
    · exact hb d (List.mem_of_mem_drop h)
theorem bin_del {s : ByteArray} {k : Nat} (hb : bin s.data.toList) : bin (delB s k).data.toList := by
  rw [delB_data]
  intro d hd
  rcases List.mem_append.1 hd with h | h
  · exact hb d (List.mem_of_mem_take h)
  · exact hb d (List.mem_of_mem_drop h)
theorem size_data (s : ByteArray) : s.data.toList.length = s.size := by simp
theorem size_insB_eq (s : ByteArray) (k : Nat) (c : UInt8) (hk : k ≤ s.size) : (insB s k c).size = s.size + 1 := by
  rw [← size_data, insB_data]; simp; omega
theorem size_delB_eq (s : ByteArray) (k : Nat) (hk : k < s.size) : (delB s k).size = s.size - 1 := by
  rw [← size_data, delB_data]; simp; omega
/-- after an insertion -/
theorem corr_ins (s : ByteArray) (h : s.size ≤ 64) (hc : chk 2 s.data.toList = 0) (k : Nat) (hk : k ≤ s.size) (c : UInt8) (hcc : c = 48 ∨ c = 49) :
    corr (s.size : Int) ((synd s.data.toList : Nat) : Int) (insB s k c) = (s, 0) := by
  obtain ⟨hb, _⟩ := bin_of_chk hc
  have hsz := size_insB_eq s k c hk
  have hc2 : chk 2 (insB s k c).data.toList = 0 := chk_of_bin (bin_ins hb hcc) (by rw [size_data, hsz]; omega)
  rw [corr_go (tck_synd s h) hc2 (by omega) (by omega)]
  have : cands (s.size : Int) (insB s k c) = candDel (insB s k c) (insB s k c).size := by unfold cands; rw [if_neg (by omega), if_pos (by omega)]
  rw [this]
  have hself : delB (insB s k c) k = s := by
    apply ext_data
    rw [delB_data, insB_data]
    have e1 : (List.take k s.data.toList).length = k := by rw [List.length_take, size_data]; omega
    rw [List.take_append_of_le_length (by omega), List.take_of_length_le (by omega), List.drop_append, List.drop_of_length_le (by omega), e1]
    simp
  refine pick_uniq ?_ rfl ?_
  · unfold candDel
    exact List.mem_map.2 ⟨k, by simp; omega, hself⟩
  · intro u hu hs
    unfold candDel at hu
    obtain ⟨j, hj, rfl⟩ := List.mem_map.1 hu
    have hj' : j < (insB s k c).data.toList.length := by rw [size_data]; simpa using hj
    apply ext_data
    have hx : bin (insB s k c).data.toList := bin_ins hb hcc
    have hsp : (insB s k c).data.toList = (insB s k c).data.toList.take j ++ (insB s k c).data.toList[j] :: (insB s k c).data.toList.drop (j + 1) := by
      rw [← List.drop_eq_getElem_cons hj', List.take_append_drop]
    have hd := delB_data (insB s k c) j
    have hin := insB_data s k c
    have hs' : synd (delB (insB s k c) j).data.toList = synd s.data.toList := by omega
    rw [hd] at hs' ⊢
    have hsd : s.data.toList = s.data.toList.take k ++ s.data.toList.drop k := (List.take_append_drop _ _).symm
    rw [hsd] at hs' ⊢
    exact del_uniq (by rw [← hsp]; exact hx) (hsp.symm.trans hin) hs'
/-- after a deletion -/
theorem corr_del (s : ByteArray) (h : s.size ≤ 64) (hc : chk 2 s.data.toList = 0) (k : Nat) (hk : k < s.size) :
    corr (s.size : Int) ((synd s.data.toList : Nat) : Int) (delB s k) = (s, 0) := by
  obtain ⟨hb, _⟩ := bin_of_chk hc
  have hsz := size_delB_eq s k hk
  have hc2 : chk 2 (delB s k).data.toList = 0 := chk_of_bin (bin_del hb) (by rw [size_data, hsz]; omega)
  rw [corr_go (tck_synd s h) hc2 (by omega) (by omega)]
  have : cands (s.size : Int) (delB s k) = candIns (delB s k) ((delB s k).size + 1) := by unfold cands; rw [if_neg (by omega), if_neg (by omega)]
  rw [this]
  have hk' : k < s.data.toList.length := by rw [size_data]; exact hk
  have hsp : s.data.toList = s.data.toList.take k ++ s.data.toList[k] :: s.data.toList.drop (k + 1) := by
    rw [← List.drop_eq_getElem_cons hk', List.take_append_drop]
  have hself : insB (delB s k) k s.data.toList[k] = s := by
    apply ext_data
    rw [insB_data, delB_data]
    have e1 : (List.take k s.data.toList).length = k := by rw [List.length_take]; omega
    rw [List.take_append_of_le_length (by omega), List.take_of_length_le (by omega), List.drop_append, List.drop_of_length_le (by omega), e1]
    simp only [List.nil_append, Nat.sub_self, List.drop_zero]
    exact hsp.symm
  refine pick_uniq ?_ rfl ?_
  · unfold candIns
    refine List.mem_flatMap.2 ⟨k, by simp; omega, ?_⟩
    rcases hb _ (List.getElem_mem hk') with e | e
    · rw [e] at hself; rw [hself]; simp
    · rw [e] at hself; rw [hself]; simp
  · intro u hu hs
    unfold candIns at hu
    obtain ⟨j, hj, hu⟩ := List.mem_flatMap.1 hu
    obtain ⟨c, hcc, rfl⟩ : ∃ c, (c = 48 ∨ c = 49) ∧ u = insB (delB s k) j c := by
      simp only [List.mem_cons, List.not_mem_nil, or_false] at hu
      rcases hu with e | e
      · exact ⟨48, .inl rfl, e⟩
      · exact ⟨49, .inr rfl, e⟩
    apply ext_data
    have hs' : synd (insB (delB s k) j c).data.toList = synd s.data.toList := by omega
    rw [insB_data] at hs' ⊢
    rw [hsp] at hs' ⊢
    refine ins_uniq ?_ hcc (hb _ (List.getElem_mem hk')) ?_ hs'
    · rw [List.take_append_drop]; exact bin_del hb
    · rw [List.take_append_drop, delB_data]
end Go.Proofs.Ytijeogengbphdaa
