import Derived.Test.YtbnpjoiojhnimaaGreatDoorG26
import Derived.Test.YtbnpjoiojhnimaaGreatDoorStf
import Derived.Sort.OwnSorted
set_option linter.unusedSimpArgs false
set_option linter.unusedVariables false
/- slices.SortFunc(out, order) at a row of strings that the call owns. -/
namespace Go.Proofs.YtbnpjoiojhnimaaGreatDoor
open Go.RowKit Go.Shelf Go.Sort
theorem ltOf_cmpW (x y : List UInt8) : ltOf cmpW x y = decide (cmpW x y < 0) := rfl
theorem compareBytes_ntrans {a b c : List UInt8} (h1 : ¬ Lib.compareBytes a b < 0) (h2 : ¬ Lib.compareBytes b c < 0) : ¬ Lib.compareBytes a c < 0 := by
 intro h
 have e1 : Lib.compareBytes b a < 0 ∨ a = b := by
  by_cases hh : Lib.compareBytes b a < 0
  ·exact .inl hh
  ·exact .inr (compareBytes_zero h1 hh)
 rcases e1 with e1 | rfl
 ·exact h2 (compareBytes_trans b a c e1 h)
 ·exact h2 h
theorem swoW : SWO (ltOf cmpW) where
 irrefl x := by rw [ltOf_cmpW]; exact decide_eq_false (cmpW_irrefl x)
 trans x y z h1 h2 := by rw [ltOf_cmpW] at *; exact decide_eq_true (cmpW_trans (of_decide_eq_true h1) (of_decide_eq_true h2))
 ntrans x y z h1 h2 := by
  rw [ltOf_cmpW] at *
  have h1 := of_decide_eq_false h1
  have h2 := of_decide_eq_false h2
  refine decide_eq_false fun h => ?_
  have e1 : cmpW y x < 0 ∨ x = y := by
   by_cases hh : cmpW y x < 0
   ·exact .inl hh
   ·exact .inr (cmpW_zero h1 hh)
  rcases e1 with e1 | rfl
  ·exact h2 (cmpW_trans e1 h)
  ·exact h2 h
theorem cmpLaysW (blk off size : Nat) (w : World) : CmpLays1 Tryz.prog 175 #[] encStr cmpW blk off size w := by
 intro m os dk hs x y
 refine (dcorder_any ⟨x.toArray⟩ ⟨y.toArray⟩ _).mono ?_
 rintro e w' ⟨rfl, rfl⟩
 exact ⟨rfl, 0, #[_], rfl⟩
theorem sortS_any (B : Nat) (v : Value) (zs : List ByteArray) (w : World) (h : Strs w B v zs) (hb : zs.length ≤ 1000000) :
  Calls Tryz.prog 182 #[v, .func (.func 175) #[] #[]] w fun e w' => e = .returned (.tuple #[]) ∧ Strs w' B v (((raws zs).mergeSort leW).map ofRaw) ∧ w.grownBy w' v.ownBlock := by
 have hm : (raws zs).map encStr = zs.map Value.string := by
  unfold raws
  rw [List.map_map]
  refine List.map_congr_left fun x _ => ?_
  show Value.string (ofRaw x.data.toList) = _
  rw [of_raw]
 rcases h.2 with ⟨rfl, h0⟩ | ⟨g, cap, cur, rfl, hbg, hg, hn, hmx, hs, ht⟩
 ·have hx : zs = [] := List.eq_nil_of_length_eq_zero h0
  subst hx
  refine (Tryz.slices_SortFunc_strs_none none 0 _ w).mono ?_
  rintro e w' ⟨rfl, rfl⟩
  exact ⟨rfl, by simpa [raws] using h, World.grownBy.refl _ _⟩
 ·have hl : (raws zs).length = zs.length := raws_len zs
  have hH : Holds encStr w g 0 (raws zs).toArray := holds_of_block hg (by rw [hm, hl]; simpa using ht)
  have hc := Tryz.slices_SortFunc_strs cmpW swoW 175 #[] g 0 cap (raws zs).toArray w (enters_of Tryz.func175 (by kernel_rfl) rfl) (cmpLaysW _ _ _ _) hH (Array.getElem?_eq_some_iff.1 hg).1 (by simp [raws_len]; omega)
   (fun x y h1 h2 => cmpW_zero (of_decide_eq_false h1) (of_decide_eq_false h2))
  rw [List.size_toArray, hl] at hc
  refine hc.mono ?_
  rintro e w' ⟨rfl, n, os, rfl⟩
  have hl2 : ((raws zs).mergeSort leW).length = (raws zs).length := List.length_mergeSort ..
  refine ⟨rfl, ?_, grownBy_sorted _⟩
  have := ownsRow_sorted (n := n) (os := os) (ts := (raws zs).mergeSort leW) (ss := raws zs) hl2 hbg hg (by rw [hl]; exact hn) hmx hs
  unfold Strs
  rw [List.length_map, hl2, hl, List.map_map]
  rw [hl] at this
  exact this
end Go.Proofs.YtbnpjoiojhnimaaGreatDoor
