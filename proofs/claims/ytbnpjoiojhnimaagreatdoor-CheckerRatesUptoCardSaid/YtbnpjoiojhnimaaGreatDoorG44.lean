import Derived.Test.YtbnpjoiojhnimaaGreatDoorG29
import Derived.Test.YtbnpjoiojhnimaaGreatDoorG43
set_option linter.unusedSimpArgs false
set_option linter.unusedVariables false
/- decodable.decodable and Decodable: their contracts. -/
namespace Go.Proofs.YtbnpjoiojhnimaaGreatDoor
open Go.RowKit
def decV (xs : List ByteArray) : Bool := !decide ([] ∈ Sar.res (raws xs))
theorem hasB_empty {xs out : List ByteArray} (h : raws out = resS xs) : hasB ⟨#[]⟩ out = decide ([] ∈ Sar.res (raws xs)) := by
 have e : hasB ⟨#[]⟩ out = decide ([] ∈ raws out) := by
  unfold hasB raws
  rw [List.contains_eq_mem]
 rw [e, h]
 exact decide_eq_decide.2 mem_resS
set_option maxRecDepth 100000 in
set_option maxHeartbeats 1000000 in
theorem decodable_any (q : Int) (A : Option Addr) (cap : Nat) (xs : List ByteArray) (w : World) (hR : RowT w A xs) (hn : xs.length ≤ 64) (hs : ∀ x ∈ xs, x.size ≤ 32) :
  Calls Tryz.prog 113 #[.agg #[.int .i64 q, .slice A xs.length cap]] w fun e w' => e = .returned (.bool (decV xs)) ∧ Below w.heap.size w w' := by
 have hB0 : Below w.heap.size w (w.alloc (Obj.cells #[.int .i64 q, .slice A xs.length cap] 27)) := (Below.refl _ w).alloc (Nat.le_refl _) _
 have HRes := hide (residuals_any q A cap xs _ (hR.below hB0) hn hs)
 clear hR
 go_enter Tryz.func113, Tryz.ntmps113
 go_wp2_with fail
 (with_reducible refine HRes.out.mono ?_)
 rintro e w1 ⟨v, out, rfl, hst, hr, hB1⟩
 have hB := hB0.trans (hB1.mono hB0.size)
 obtain ⟨A2, c2, rfl, hRS⟩ := strs_row hst
 have HCon := hide (con_any out ⟨#[]⟩ A2 c2 w1 hRS (by
  have h1 : out.length = (raws out).length := (raws_len out).symm
  have h2 := (Sar.resGo_closed ((Sar.sufs (raws xs)).length + 1) 0 (Sar.addL [] (Sar.fstL (raws xs))) rfl (Nat.zero_le _) (Sar.Good.one _) (fun j r h => by omega)).2.1.len
  have h3 := sufs_len (W := raws xs) (n := 32) (fun y hy => by obtain ⟨z, hz, rfl⟩ := List.mem_map.1 hy; simpa using hs z hz)
  rw [raws_len] at h3
  have h4 : (resS xs).length = (Sar.res (raws xs)).length := List.length_mergeSort ..
  have h5 : (Sar.res (raws xs)).length ≤ (Sar.sufs (raws xs)).length := h2
  rw [h1, hr, h4]
  omega))
 rw [hasB_empty hr] at HCon
 have HB := hide hB
 have HV := hide (show decV xs = !decide ([] ∈ Sar.res (raws xs)) from rfl)
 obtain ⟨R, hRR⟩ : ∃ R, decide ([] ∈ Sar.res (raws xs)) = R := ⟨_, rfl⟩
 rw [hRR] at HCon HV
 clear hRS hst hr hB1 hB hB0 HRes hRR
 go_wp2_with fail
 (with_reducible refine HCon.out.mono ?_)
 rintro e w2 ⟨rfl, n, rfl⟩
 have HB2 := hide (belowN HB.out n)
 clear HCon HB
 go_wp2
 go_ret
 exact ⟨by rw [HV.out]; rfl, HB2.out⟩
end Go.Proofs.YtbnpjoiojhnimaaGreatDoor
