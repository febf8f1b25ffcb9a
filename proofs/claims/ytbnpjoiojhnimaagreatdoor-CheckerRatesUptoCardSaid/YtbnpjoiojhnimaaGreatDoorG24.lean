import Derived.Test.YtbnpjoiojhnimaaGreatDoorG22
import Derived.Test.YtbnpjoiojhnimaaGreatDoorSrt
import Derived.Sort.OwnSortedInts
set_option linter.unusedSimpArgs false
set_option linter.unusedVariables false
/- slices.Sort at a row of ints that the call owns. -/
namespace Go.Proofs.YtbnpjoiojhnimaaGreatDoor
open Go.RowKit Go.Sort
def srt (zs : List Int) : List Int := zs.mergeSort fun x y => decide (x ≤ y)
theorem srt_len (zs : List Int) : (srt zs).length = zs.length := List.length_mergeSort ..
theorem sortI_any (B : Nat) (v : Value) (zs : List Int) (w : World) (h : Ints w B v zs) (hb : zs.length ≤ 4294967296) :
  Calls Tryz.prog 214 #[v] w fun e w' => e = .returned (.tuple #[]) ∧ Ints w' B v (srt zs) ∧ w.grownBy w' v.ownBlock := by
 rcases h.2 with ⟨rfl, h0⟩ | ⟨g, cap, cur, rfl, hbg, hg, hn, hm, hs, ht⟩
 ·have hx : zs = [] := List.eq_nil_of_length_eq_zero h0
  subst hx
  refine (Tryz.slices_Sort_ints_none none 0 w).mono ?_
  rintro e w' ⟨rfl, rfl⟩
  exact ⟨rfl, by unfold srt; simpa using h, World.grownBy.refl _ _⟩
 ·have hH : Holds (Value.int .i64) w g 0 zs.toArray := holds_of_blockI hg (by simpa using ht)
  refine (Tryz.slices_Sort_ints g 0 cap zs w hH (Array.getElem?_eq_some_iff.1 hg).1 (by omega)).mono ?_
  rintro e w' ⟨rfl, n, os, rfl⟩
  refine ⟨rfl, ?_, grownBy_sortedI _⟩
  have := ownsRow_sortedI (n := n) (os := os) (ts := srt zs) (ss := zs) (srt_len zs) hbg hg hn hm hs
  unfold Ints
  rw [srt_len]
  exact this
end Go.Proofs.YtbnpjoiojhnimaaGreatDoor
