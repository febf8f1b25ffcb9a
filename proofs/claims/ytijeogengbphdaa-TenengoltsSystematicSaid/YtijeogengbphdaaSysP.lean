/- The plain law of the systematic codes: the encoded word has the syndrome 0, and its data letters are the data. No Go here but for the functions of XEnc, XDec and XVT. -/
import Derived.Test.YtijeogengbphdaaDec
set_option linter.unusedVariables false
namespace Go.Proofs.Ytijeogengbphdaa
open Go.RowKit
def bitSum (m : Nat) : Nat → Nat
  | 0 => 0
  | k + 1 => bitSum m k + if isPow (k + 1) && (m &&& (k + 1)) != 0 then k + 1 else 0
theorem bitSum_tab : ∀ n : Fin 25, ∀ m : Fin 25, m.1 ≤ n.1 → bitSum m.1 n.1 = m.1 := by decide +kernel
theorem sumS_enc (n : Nat) (l : List UInt8) : ∀ k, sumS ((List.range k).map (encG n l)) 0 = sumS ((List.range k).map (encF l)) 0 + bitSum (encMiss n l) k
  | 0 => rfl
  | k + 1 => by
    rw [List.range_succ, List.map_append, List.map_append, List.map_singleton, List.map_singleton, sumS_snoc, sumS_snoc, sumS_enc n l k]
    simp only [List.length_map, List.length_range, bitSum]
    cases hp : isPow (k + 1)
    · have : encG n l k = encF l k := by unfold encG; rw [hp]; rfl
      rw [this]; simp; omega
    · have hf := encFpow (l := l) hp
      cases hm : (encMiss n l &&& (k + 1)) != 0
      · have : encG n l k = encF l k := by unfold encG; rw [hp, hm]; rfl
        rw [this, hf]; simp
      · have : encG n l k = 49 := by unfold encG; rw [hp, hm]; rfl
        rw [this, hf]; simp; omega
theorem len_encOut (n : Nat) (l : List UInt8) : (encOut n l).length = n := by simp [encOut]
theorem synd_encOut (n : Nat) (l : List UInt8) (hn : n ≤ 24) : synd (encOut n l) = 0 := by
  have hms : encMiss n l < n + 1 := Nat.mod_lt _ (by omega)
  have h1 := sumS_enc n l n
  have h2 := bitSum_tab ⟨n, by omega⟩ ⟨encMiss n l, by omega⟩ (by show encMiss n l ≤ n; omega)
  have h2' : bitSum (encMiss n l) n = encMiss n l := h2
  rw [h2'] at h1
  unfold synd
  rw [len_encOut]
  show sumS ((List.range n).map (encG n l)) 0 % (n + 1) = 0
  rw [h1]
  have hm : encMiss n l = (n + 1 - sumS ((List.range n).map (encF l)) 0 % (n + 1)) % (n + 1) := by
    unfold encMiss synd encFirst
    simp
  rw [hm]
  generalize sumS ((List.range n).map (encF l)) 0 = S
  have hr := Nat.mod_lt S (show 0 < n + 1 by omega)
  have hd := Nat.div_add_mod S (n + 1)
  rw [Nat.add_mod_mod]
  conv => lhs; lhs; lhs; rw [← hd]
  rw [show (n + 1) * (S / (n + 1)) + S % (n + 1) + (n + 1 - S % (n + 1)) = (n + 1) * (S / (n + 1)) + (n + 1) by omega]
  simp
theorem encG_get (n : Nat) (l : List UInt8) (k : Nat) (hk : k < n) : (encOut n l).getD k 0 = encG n l k := by
  have : k < (encOut n l).length := by rw [len_encOut]; exact hk
  rw [List.getD, List.getElem?_eq_getElem this]
  simp [encOut]
theorem dataN_lt {n k : Nat} (hk : k < n) (hp : isPow (k + 1) = false) : dataN k < dataN n := by
  have h1 := dataN_mono (show k + 1 ≤ n by omega)
  have : dataN (k + 1) = dataN k + 1 := by show dataN k + _ = _; rw [hp]; rfl
  omega
theorem decK_enc (n : Nat) (l : List UInt8) (hl : l.length = dataN n) : ∀ k, k ≤ n → decK (encOut n l) k = l.take (dataN k)
  | 0, _ => by simp [decK, dataN]
  | k + 1, hk => by
    show decK (encOut n l) k ++ _ = _
    rw [decK_enc n l hl k (by omega)]
    cases hp : isPow (k + 1)
    · have hd : dataN (k + 1) = dataN k + 1 := by show dataN k + _ = _; rw [hp]; rfl
      have hlt : dataN k < l.length := by rw [hl]; exact dataN_lt (by omega) hp
      have hg : encG n l k = l[dataN k] := by
        unfold encG; rw [hp]; simp [encFfree hp, List.getD, List.getElem?_eq_getElem hlt]
      rw [encG_get n l k (by omega), hg, hd, List.take_succ_eq_append_getElem hlt]
      rfl
    · have hd : dataN (k + 1) = dataN k := by show dataN k + _ = _; rw [hp]; rfl
      rw [hd]; simp
theorem bin_encOut (n : Nat) (l : List UInt8) (hl : l.length = dataN n) (hb : bin l) : bin (encOut n l) := by
  intro c hc
  unfold encOut at hc
  obtain ⟨i, hi, rfl⟩ := List.mem_map.1 hc
  have hi' : i < n := by simpa using hi
  unfold encG
  split
  · exact .inr rfl
  · cases hp : isPow (i + 1)
    · have hlt : dataN i < l.length := by rw [hl]; exact dataN_lt hi' hp
      rw [encFfree hp]
      simp only [List.getD, List.getElem?_eq_getElem hlt, Option.getD_some]
      exact hb _ (List.getElem_mem hlt)
    · exact .inl (encFpow hp)
/-- the encoded word -/
def encB (n : Nat) (s : ByteArray) : ByteArray := ⟨(encOut n s.data.toList).toArray⟩
theorem encB_data (n : Nat) (s : ByteArray) : (encB n s).data.toList = encOut n s.data.toList := rfl
theorem encB_size (n : Nat) (s : ByteArray) : (encB n s).size = n := by rw [← size_data, encB_data, len_encOut]
theorem dec_of {n : Nat} {s u : ByteArray} (hl : s.size = dataN n) (h : corr (n : Int) 0 u = (encB n s, 0)) : dec (n : Int) u = (s.data.toList, 0) := by
  unfold dec
  rw [h, if_neg (by simp), encB_size, encB_data, decK_enc n _ (by rw [size_data]; exact hl) n (Nat.le_refl _), List.take_of_length_le (by rw [size_data]; omega)]
theorem sys_chk {n : Nat} {s : ByteArray} (hn : n ≤ 24) (hc : chk 2 s.data.toList = 0) (hl : s.size = dataN n) : chk 2 (encB n s).data.toList = 0 := by
  rw [encB_data]
  exact chk_of_bin (bin_encOut n _ (by rw [size_data]; exact hl) (bin_of_chk hc).1) (by rw [len_encOut]; omega)
theorem sys_synd {n : Nat} {s : ByteArray} (hn : n ≤ 24) : synd (encB n s).data.toList = 0 := by rw [encB_data]; exact synd_encOut n _ hn
theorem sys_self {n : Nat} {s : ByteArray} (hn : n ≤ 24) (hc : chk 2 s.data.toList = 0) (hl : s.size = dataN n) : dec (n : Int) (encB n s) = (s.data.toList, 0) := by
  refine dec_of hl ?_
  have h := corr_self (encB n s) (by rw [encB_size]; omega) (sys_chk hn hc hl)
  rw [encB_size, sys_synd hn] at h; exact h
theorem sys_ins {n : Nat} {s : ByteArray} (hn : n ≤ 24) (hc : chk 2 s.data.toList = 0) (hl : s.size = dataN n) (k : Nat) (hk : k ≤ n) (c : UInt8) (hcc : c = 48 ∨ c = 49) :
    dec (n : Int) (insB (encB n s) k c) = (s.data.toList, 0) := by
  refine dec_of hl ?_
  have h := corr_ins (encB n s) (by rw [encB_size]; omega) (sys_chk hn hc hl) k (by rw [encB_size]; omega) c hcc
  rw [encB_size, sys_synd hn] at h; exact h
theorem sys_del {n : Nat} {s : ByteArray} (hn : n ≤ 24) (hc : chk 2 s.data.toList = 0) (hl : s.size = dataN n) (k : Nat) (hk : k < n) :
    dec (n : Int) (delB (encB n s) k) = (s.data.toList, 0) := by
  refine dec_of hl ?_
  have h := corr_del (encB n s) (by rw [encB_size]; omega) (sys_chk hn hc hl) k (by rw [encB_size]; omega)
  rw [encB_size, sys_synd hn] at h; exact h
end Go.Proofs.Ytijeogengbphdaa
