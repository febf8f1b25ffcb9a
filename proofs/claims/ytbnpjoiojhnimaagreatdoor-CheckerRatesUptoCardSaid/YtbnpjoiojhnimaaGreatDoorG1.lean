import Derived.Test.YtbnpjoiojhnimaaGreatDoorG0
import Derived.Lib.Bytealg
import Derived.Lib.Small
set_option linter.unusedSimpArgs false
set_option linter.unusedVariables false
/- Plain: words by length, then by letters; what is no code (code.Check). No program in sight. -/
namespace Go.Proofs.YtbnpjoiojhnimaaGreatDoor
def cmpW (a b : List UInt8) : Int := if Lib.compareInt a.length b.length ≠ 0 then Lib.compareInt a.length b.length else Lib.compareBytes a b
theorem compareBytes_refl : ∀ a : List UInt8, Lib.compareBytes a a = 0
 | [] => rfl
 | x :: a => by unfold Lib.compareBytes; rw [if_neg (UInt8.lt_irrefl x), if_neg (UInt8.lt_irrefl x)]; exact compareBytes_refl a
theorem compareBytes_trans : ∀ (a b c : List UInt8), Lib.compareBytes a b < 0 → Lib.compareBytes b c < 0 → Lib.compareBytes a c < 0
 | [], [], _, h, _ => absurd h (by simp [Lib.compareBytes])
 | [], _ :: _, [], _, h => absurd h (by simp [Lib.compareBytes])
 | [], _ :: _, _ :: _, _, _ => by simp [Lib.compareBytes]
 | _ :: _, [], _, h, _ => absurd h (by simp [Lib.compareBytes])
 | _ :: _, _ :: _, [], _, h => absurd h (by simp [Lib.compareBytes])
 | x :: a, y :: b, z :: c, h1, h2 => by
  unfold Lib.compareBytes at h1 h2 ⊢
  by_cases hxy : x < y
  ·by_cases hyz : y < z
   ·rw [if_pos (UInt8.lt_trans hxy hyz)]; omega
   ·rw [if_neg hyz] at h2
    by_cases hzy : z < y
    ·rw [if_pos hzy] at h2; exact absurd h2 (by omega)
    ·have : y = z := UInt8.le_antisymm (UInt8.not_lt.1 hzy) (UInt8.not_lt.1 hyz)
     rw [if_pos (this ▸ hxy)]; omega
  ·rw [if_neg hxy] at h1
   by_cases hyx : y < x
   ·rw [if_pos hyx] at h1; exact absurd h1 (by omega)
   ·have e : x = y := UInt8.le_antisymm (UInt8.not_lt.1 hyx) (UInt8.not_lt.1 hxy)
    subst e
    rw [if_neg hyx] at h1
    by_cases hyz : x < z
    ·rw [if_pos hyz]; omega
    ·rw [if_neg hyz] at h2 ⊢
     by_cases hzy : z < x
     ·rw [if_pos hzy] at h2; exact absurd h2 (by omega)
     ·rw [if_neg hzy] at h2 ⊢
      exact compareBytes_trans a b c h1 h2
theorem cmpW_lt {a b : List UInt8} : cmpW a b < 0 ↔ a.length < b.length ∨ a.length = b.length ∧ Lib.compareBytes a b < 0 := by
 unfold cmpW Lib.compareInt
 by_cases h : (a.length : Int) < b.length
 ·rw [if_pos h, if_pos (by decide)]; omega
 ·rw [if_neg h]
  by_cases h2 : (a.length : Int) > b.length
  ·rw [if_pos h2, if_pos (by decide)]; omega
  ·rw [if_neg h2, if_neg (by decide)]
   have : a.length = b.length := by omega
   omega
theorem cmpW_irrefl (a : List UInt8) : ¬ cmpW a a < 0 := by rw [cmpW_lt, compareBytes_refl]; omega
theorem cmpW_trans {a b c : List UInt8} (h1 : cmpW a b < 0) (h2 : cmpW b c < 0) : cmpW a c < 0 := by
 rw [cmpW_lt] at h1 h2 ⊢
 rcases h1 with h1 | ⟨h1, h1'⟩ <;> rcases h2 with h2 | ⟨h2, h2'⟩
 ·left; omega
 ·left; omega
 ·left; omega
 ·right; exact ⟨by omega, compareBytes_trans a b c h1' h2'⟩
def cdl (q : Int) : List UInt8 → List ByteArray → Int
 | _, [] => 0
 | p, x :: xs => if x.size = 0 then 5 else if 32 < x.size then 4 else if chk q x.data.toList ≠ 0 then 13 else if 0 ≤ cmpW p x.data.toList then 10 else cdl q x.data.toList xs
def cdk (q : Int) (xs : List ByteArray) : Int := if q < 2 ∨ 16 < q then 12 else if xs.length = 0 then 5 else if 64 < xs.length then 4 else cdl q [] xs
def prv (xs : List ByteArray) (k : Nat) : List UInt8 := if k = 0 then [] else (xs.getD (k - 1) ⟨#[]⟩).data.toList
theorem prv_succ {xs : List ByteArray} {k : Nat} (h : k < xs.length) : prv xs (k + 1) = xs[k].data.toList := by
 unfold prv; rw [if_neg (by omega)]; simp [List.getD_eq_getElem?_getD, List.getElem?_eq_getElem h]
theorem cdl_step {q : Int} {xs : List ByteArray} {k : Nat} (h : k < xs.length) (h0 : xs[k].size ≠ 0) (h1 : ¬ 32 < xs[k].size) (h2 : chk q xs[k].data.toList = 0) (h3 : cmpW (prv xs k) xs[k].data.toList < 0) :
  cdl q (prv xs k) (xs.drop k) = cdl q (prv xs (k + 1)) (xs.drop (k + 1)) := by
 rw [List.drop_eq_getElem_cons h, cdl, if_neg h0, if_neg h1, if_neg (by simpa using h2), if_neg (by omega), prv_succ h]
theorem cdl_five {q : Int} {xs : List ByteArray} {k : Nat} (h : k < xs.length) (h0 : xs[k].size = 0) : cdl q (prv xs k) (xs.drop k) = 5 := by
 rw [List.drop_eq_getElem_cons h, cdl, if_pos h0]
theorem cdl_four {q : Int} {xs : List ByteArray} {k : Nat} (h : k < xs.length) (h1 : 32 < xs[k].size) : cdl q (prv xs k) (xs.drop k) = 4 := by
 rw [List.drop_eq_getElem_cons h, cdl, if_neg (by omega), if_pos h1]
theorem cdl_word {q : Int} {xs : List ByteArray} {k : Nat} (h : k < xs.length) (h0 : xs[k].size ≠ 0) (h1 : ¬ 32 < xs[k].size) (h2 : chk q xs[k].data.toList ≠ 0) : cdl q (prv xs k) (xs.drop k) = 13 := by
 rw [List.drop_eq_getElem_cons h, cdl, if_neg h0, if_neg h1, if_pos h2]
theorem cdl_ten {q : Int} {xs : List ByteArray} {k : Nat} (h : k < xs.length) (h0 : xs[k].size ≠ 0) (h1 : ¬ 32 < xs[k].size) (h2 : chk q xs[k].data.toList = 0) (h3 : 0 ≤ cmpW (prv xs k) xs[k].data.toList) : cdl q (prv xs k) (xs.drop k) = 10 := by
 rw [List.drop_eq_getElem_cons h, cdl, if_neg h0, if_neg h1, if_neg (by simpa using h2), if_pos h3]
theorem prv_zero {xs : List ByteArray} {x : ByteArray} (h : x.size ≠ 0) : cmpW (prv xs 0) x.data.toList < 0 := by
 rw [cmpW_lt]; left; unfold prv; rw [if_pos rfl]
 have : x.data.toList.length = x.size := by simp
 simp only [List.length_nil]; omega
theorem cdl_zero {q : Int} : ∀ {xs : List ByteArray} {p : List UInt8}, cdl q p xs = 0 → (∀ x ∈ xs, x.size ≠ 0 ∧ x.size ≤ 32 ∧ chk q x.data.toList = 0 ∧ cmpW p x.data.toList < 0) ∧ xs.Pairwise fun a b => cmpW a.data.toList b.data.toList < 0
 | [], _, _ => ⟨fun _ h => absurd h List.not_mem_nil, List.Pairwise.nil⟩
 | x :: xs, p, h => by
  unfold cdl at h
  split at h
  ·cases h
  ·rename_i h0
   split at h
   ·cases h
   ·rename_i h1
    split at h
    ·cases h
    ·rename_i h2
     split at h
     ·cases h
     ·rename_i h3
      obtain ⟨g1, g2⟩ := cdl_zero h
      have h3' : cmpW p x.data.toList < 0 := by omega
      refine ⟨fun y hy => ?_, List.Pairwise.cons (fun y hy => (g1 y hy).2.2.2) g2⟩
      rcases List.mem_cons.1 hy with rfl | hy
      ·exact ⟨h0, by omega, by simpa using h2, h3'⟩
      ·obtain ⟨a, b, c, d⟩ := g1 y hy
       exact ⟨a, b, c, cmpW_trans h3' d⟩
structure Cod (q : Int) (xs : List ByteArray) : Prop where
 lets : 2 ≤ q ∧ q ≤ 16
 some_ : 0 < xs.length
 few : xs.length ≤ 64
 word : ∀ x ∈ xs, x.size ≠ 0 ∧ x.size ≤ 32 ∧ chk q x.data.toList = 0
 asc : xs.Pairwise fun a b => cmpW a.data.toList b.data.toList < 0
theorem cdk_zero {q : Int} {xs : List ByteArray} (h : cdk q xs = 0) : Cod q xs := by
 unfold cdk at h
 split at h
 ·cases h
 ·split at h
  ·cases h
  ·split at h
   ·cases h
   ·obtain ⟨a, b⟩ := cdl_zero h
    exact ⟨by omega, by omega, by omega, fun x hx => let ⟨c, d, e, _⟩ := a x hx; ⟨c, d, e⟩, b⟩
theorem Cod.inj {q : Int} {xs : List ByteArray} (h : Cod q xs) {i j : Nat} (hi : i < xs.length) (hj : j < xs.length) (e : xs[i] = xs[j]) : i = j := by
 rcases Nat.lt_trichotomy i j with hlt | he | hlt
 ·have := List.pairwise_iff_getElem.1 h.asc i j hi hj hlt
  rw [e] at this; exact absurd this (cmpW_irrefl _)
 ·exact he
 ·have := List.pairwise_iff_getElem.1 h.asc j i hj hi hlt
  rw [e] at this; exact absurd this (cmpW_irrefl _)
end Go.Proofs.YtbnpjoiojhnimaaGreatDoor
