import Derived.Test.YtpppbkdbpbpinaaGreatDoorRows
import Derived.Test.YtpppbkdbpbpinaaGreatDoorG0
import Derived.Test.YtpppbkdbpbpinaaGreatDoorG4
import Derived.WalkKit
import Derived.ProofKit
import Derived.OpenShut
import Derived.ShutString
import Derived.SliceStrings
import Derived.ChangeSlices
import Derived.Deep.Slices
import Derived.Deep.Fields
import Derived.ChangeSame
import Derived.Carry
import Derived.Lib.SmallJoins
import Derived.LaidMore
import Derived.Lay
import Derived.Stop.Joined
import Derived.Stop.LaidErr
set_option linter.unusedSimpArgs false
set_option linter.unusedVariables false
/- Arguments opened: an automaton, a slice of ints, a slice of slices of ints; the table of math/bits out of the row's condition. -/
set_option linter.unusedVariables false
set_option maxRecDepth 100000
namespace Go.Proofs.YtpppbkdbpbpinaaGreatDoor.Open44
open Go.ChangeShapes Go.WideShapes Go.ChangeAt Go.RowKit Go.Deep Go.Joins
section
variable {H : Type} {enc : TypeId × Value → H} {w : World} {base : Nat} {spare : Nat → Bool} {held : Bool}
theorem add_at {b o n : Nat} : (⟨b, o, none⟩ : Addr).add n = ⟨b, o + n, none⟩ := by
  unfold Addr.add
  split
  · rename_i h; subst h; rfl
  · rfl
theorem add_zero_ (a : Addr) : a.add 0 = a := by unfold Addr.add; split <;> simp_all
/-- a slice of ints that reads: it lies -/
theorem cell_ints {n : Nat} {cs : List Value} {y : DataW H × List MemPlace} (h : DataW.trod enc Tryz.prog w base spare held n 35 cs = some y) :
    ∃ A c, ∃ zs : List Int, cs = [.slice A zs.length c] ∧ RowI w A zs ∧ zs.length ≤ maxLen := by
  rcases open_ints Tryz.underlying35 Tryz.underlying3 (by kernel_rfl) h with ⟨rfl, _⟩ | ⟨a, len, cap, zs, rfl, _, hl, hm, hz, _, hcell, _⟩
  · exact ⟨none, 0, [], rfl, fun hp => absurd hp (by simp), Nat.zero_le _⟩
  · have hle : len ≤ zs.length := by rw [hz]; split <;> omega
    have hlen : (zs.take len).length = len := by rw [List.length_take]; omega
    refine ⟨some a, cap, zs.take len, by rw [hlen], fun hp => ?_, by rw [hlen]; omega⟩
    rw [hlen] at hp
    obtain ⟨b, o, sp⟩ := a
    have h0 := hcell 0 (by omega)
    obtain rfl : sp = none := by simpa [Addr.add] using World.cell?_spot h0
    rw [add_at] at h0
    refine ⟨b, o, rfl, World.block_lt_of_cell? w _ h0, fun k hk => ?_⟩
    have hk' : k < zs.length := by rw [hlen] at hk; omega
    have := hcell k hk'
    rw [add_at] at this
    rw [this, List.getElem_take, List.getD_eq_getElem?_getD, List.getElem?_eq_getElem hk']
    rfl
/-- a slice of slices of ints that reads: it lies -/
theorem row_intss {n : Nat} {cs : List Value} {y : DataW H × List MemPlace} (h : DataW.trod enc Tryz.prog w base spare held n 22 cs = some y) :
    ∃ A c, ∃ ds : List (List Int), cs = [.slice A ds.length c] ∧ RowD w A ds ∧ ds.length ≤ maxLen := by
  rcases open_slice Tryz.underlying22 h with ⟨rfl, _⟩ | ⟨a, len, cap, m, n', D, Pl, rfl, _, hl, hm, hmm, _, hf⟩
  · exact ⟨none, 0, [], rfl, fun hp => absurd hp (by simp), Nat.zero_le _⟩
  · have hle : len ≤ m := by rw [hmm]; split <;> omega
    have hC : Tryz.prog.cellsOf 35 = 1 := by kernel_rfl
    have HS : ∀ i, ∃ s : List Int, i < m → s.length ≤ maxLen ∧ ∃ D c, w.cell? (a.add i) = some (.slice D s.length c) ∧ RowI w D s := by
      intro i
      by_cases hi : i < m
      · obtain ⟨cs', hc, ht⟩ := hf i hi
        rw [hC, Nat.mul_one] at hc
        obtain ⟨D3, c, zs, rfl, hr, hz⟩ := cell_ints ht
        obtain ⟨_, _, hat⟩ := World.cells?_some hc
        have := hat 0 (by omega)
        rw [add_zero_] at this
        exact ⟨zs, fun _ => ⟨hz, D3, c, this, hr⟩⟩
      · exact ⟨[], fun h => absurd h hi⟩
    obtain ⟨S, hS⟩ := Classical.axiomOfChoice HS
    have hlen : ((List.range len).map S).length = len := by rw [List.length_map, List.length_range]
    refine ⟨some a, cap, (List.range len).map S, by rw [hlen], fun hp => ?_, by rw [hlen]; omega⟩
    rw [hlen] at hp
    obtain ⟨b, o, sp⟩ := a
    obtain ⟨_, _, _, h0, _⟩ := hS 0 (by omega)
    obtain rfl : sp = none := by simpa [Addr.add] using World.cell?_spot h0
    rw [add_at] at h0
    refine ⟨b, o, rfl, World.block_lt_of_cell? w _ h0, fun k hk => ?_⟩
    rw [hlen] at hk
    obtain ⟨_, D3, c, c3, hr⟩ := hS k (by omega)
    rw [add_at] at c3
    have e : ((List.range len).map S)[k]'(by rw [hlen]; exact hk) = S k := by rw [List.getElem_map, List.getElem_range]
    rw [e]
    exact ⟨D3, c, c3, hr⟩
/-- an automaton that reads: it lies -/
theorem open_aut {r : Reach} {b0 : Nat} {v : Value} {d : DataW H} {p : List MemPlace} (hv : Value.okWide Tryz.prog w r b0 24 v) (h : DataW.Trod enc Tryz.prog w base spare held 24 v d p) :
    ∃ (L : Int) (rows : List (List Int)) (A : Option Addr) (cc : Nat), v = .agg #[.int .i64 L, .slice A rows.length cc] ∧ RowD w A rows ∧ rows.length ≤ maxLen := by
  obtain ⟨v0, v1, y0, y1, n, rfl, rfl, rfl, h0, h1⟩ := open_agg2 Tryz.underlying24 (by kernel_rfl) (by kernel_rfl) hv h
  obtain ⟨z, e0, _, _⟩ := DataW.trod_int Tryz.underlying3 h0
  obtain ⟨A, c, ds, e1, hR, hl⟩ := row_intss h1
  simp only [List.cons.injEq, and_true] at e0 e1
  subst e0 e1
  exact ⟨z, ds, A, c, rfl, hR, hl⟩
end
def laidTab : List (String × DataW Unit) := [("math/bits.deBruijn32tab", Rows.laid_math_bits_deBruijn32tab), ("math/bits.deBruijn64tab", Rows.laid_math_bits_deBruijn64tab)]
theorem tabZ_data : (Rows.laid_math_bits_deBruijn64tab : DataW Unit) = .agg (tabZ.map fun n => .lit (.int .u8 ((n : Nat) : Int))) := by kernel_rfl
/-- the table of math/bits lies, by the row's condition -/
theorem tab_of {W : World} (h : laidMetH Tryz.prog laidTab W) : TabZ W := by
  rw [MakeChecks.laidMetH_plain _ _ _ (by kernel_rfl)] at h
  replace h := laidMet.tail h
  obtain ⟨ps, ⟨g, t, cs, fuel, p, q, hg, ht, hv, hd, _, _⟩, _, _⟩ := h
  rw [tabZ_data] at hd
  obtain rfl := Option.some.inj ((show Tryz.prog.globalNamed "math/bits.deBruijn64tab" = some 1 by kernel_rfl).symm.trans hg)
  obtain rfl := Option.some.inj ((show (Tryz.prog.globals[1]?).map (·.type) = some 327 by kernel_rfl).symm.trans ht)
  obtain ⟨xs, m, _, ex, _, hl, hel⟩ := DataW.trod_array Tryz.underlying327 hd
  have c5 : Tryz.prog.cellsOf 5 = 1 := by kernel_rfl
  have hc : ∀ r, r < 64 → W.cell? ⟨1, r, none⟩ = some (.int .u8 ((tabZ.getD r 0 : Nat) : Int)) := by
    intro r hr
    have hE := hel r hr
    rw [c5, Nat.mul_one, List.getElem?_eq_getElem (by omega)] at hE
    obtain ⟨z, e1, e2, _⟩ := DataW.trod_int Tryz.underlying5 hE
    have hlen : tabZ.length = 64 := by kernel_rfl
    have e3 : (xs.map (·.1)) = tabZ.map fun n => .lit (.int .u8 ((n : Nat) : Int)) := (DataW.agg.inj (Prod.mk.inj ex).1).symm
    have e4 : (xs.map (·.1))[r]? = (tabZ.map fun n => (DataW.lit (.int .u8 ((n : Nat) : Int)) : DataW Unit))[r]? := by rw [e3]
    rw [List.getElem?_map, List.getElem?_map, List.getElem?_eq_getElem (by omega : r < xs.length), List.getElem?_eq_getElem (by omega : r < tabZ.length), e2] at e4
    have hz : z = ((tabZ.getD r 0 : Nat) : Int) := by
      simp only [Option.map_some, Option.some.injEq, DataW.lit.injEq, Lit.int.injEq, true_and] at e4
      rw [e4, List.getD, List.getElem?_eq_getElem (by omega : r < tabZ.length)]; rfl
    rw [World.var?_cell hg hv r, ← hz]
    have : cs.toList[r]? = some (.int .u8 z) := by
      have h0 : ((cs.toList.drop r).take 1)[0]? = some (.int .u8 z) := by rw [e1]; rfl
      simpa using h0
    simpa using this
  exact ⟨World.block_lt_of_cell? W _ (hc 0 (by omega)), hc⟩
end Go.Proofs.YtpppbkdbpbpinaaGreatDoor.Open44
