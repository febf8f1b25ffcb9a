import Derived.Test.YtbnpjoiojhnimaaGreatDoorG3
import Derived.OrdersHeld
import Derived.OrdersIn
import Derived.RangeFuncCalls
import Derived.Deep.RegionHeld
set_option linter.unusedSimpArgs false
set_option linter.unusedVariables false
/- A region that draws its order, in a round of a range over a function: what serves outside a round serves there, too (no program in sight). -/
namespace Go.Proofs.YtbnpjoiojhnimaaGreatDoor
open Go.RowKit
section
def OnlyN (Q : Exit → Act → World → Prop) : Exit → Act → World → Prop
 | .normal, a, w => Q .normal a w
 | _, _, _ => False
theorem OnlyN.imp {Q : Exit → Act → World → Prop} : ∀ e a w, OnlyN Q e a w → Q e a w
 | .normal, _, _, h => h
 | .ret, _, _, h => h.elim
 | .exit _, _, _, h => h.elim
 | .goto _, _, _, h => h.elim
 | .panic _, _, _, h => h.elim
 | .outgrown, _, _, h => h.elim
def noDefB (ops : Array Oper) : Bool := ops.all fun o => match o.op with | .defer _ => false | _ => true
theorem noDef {ops : Array Oper} (h : noDefB ops = true) {i : Nat} {o : Oper} (ho : ops[i]? = some o) (c : Call) : o.op ≠ Op.defer c := by
 intro e
 have hm : o ∈ ops := Array.mem_of_getElem? ho
 unfold noDefB at h
 rw [Array.all_eq_true_iff_forall_mem] at h
 have := h o hm
 rw [e] at this
 cases this
theorem OnlyN.mk {Q : Exit → Act → World → Prop} {a : Act} {w : World} (h : Q .normal a w) : OnlyN Q .normal a w := h
section
variable {P : Program} {Q : Exit → Act → World → Prop} {l n : Nat}
theorem onlyN_no : ¬ LetsOut (OnlyN Q) := fun ⟨_, _, h⟩ => h
theorem upon_in {o : Oper} {a : Act} {next next' : Act → World → Prop} (hn : ∀ a w, next a w → next' a w) : ∀ r, o.upon P a next (OnlyN Q) r → o.uponIn (Fence.wide.inRound l) n P a next' (OnlyN Q) r
 | .ok (.value v) w, h => hn _ _ h
 | .ok .skip w, h => hn _ _ h
 | .ok (.defer d) w, h => hn _ _ h
 | .ok (.enter f args) w, h => ⟨fun h => by simp [Fence.wide] at h, CallsIn.inRound l (callsIn_wide.2 (Calls.mono h (by
   intro e w' h
   cases e with
   | returned v => exact hn _ _ h
   | panicked c => exact h
   | outgrown => exact h)))⟩
 | .ok (.row row args) w, h => ⟨fun h => by simp [Fence.wide] at h, fun c cs _ => let ⟨v, w', r, s⟩ := h c cs; ⟨v, w', hn _ _ r, stepsIn_wide.2 s⟩⟩
 | .halt (.panic v) w, h => h
theorem op_in {ops : Array Oper} (hops : noDefB ops = true) {i : Nat} {K K' : Act → World → Prop} (hK : ∀ a w, K a w → K' a w) {a : Act} {w : World} (h : wpOp P ops (OnlyN Q) i K a w) :
  wpOpIn (Fence.wide.inRound l) n P ops (OnlyN Q) i K' a w := by
 unfold wpOp at h
 unfold wpOpIn
 cases ho : ops[i]? with
 | none => rw [ho] at h; exact hK _ _ h
 | some o =>
  rw [ho] at h
  simp only at h ⊢
  split
  ·rename_i hw
   rw [if_pos hw] at h
   rcases h with h | h
   ·refine ⟨fun _ _ => trivial, ?_⟩
    unfold Oper.wp at h
    rw [Oper.semAt_eq _ _ _ (noDef hops ho)]
    exact upon_in hK _ h
   ·exact (onlyN_no h.2).elim
  ·rename_i hw
   rw [if_neg hw] at h
   exact ⟨fun _ _ => trivial, hK _ _ h⟩
theorem any_in {md : Region.Mode} {ops : Array Oper} (hops : noDefB ops = true) : ∀ (fuel : Nat) (listed : Array Bool) (a : Act) (w : World),
  wpAny P md ops (OnlyN Q) fuel listed a w → wpAnyIn (Fence.wide.inRound l) n P md ops (OnlyN Q) fuel listed a w
 | 0, _, _, _, h => h
 | fuel + 1, _, _, _, h => ⟨h.1, fun i hi => op_in hops (fun a w => any_in hops fuel _ a w) (h.2 i hi)⟩
theorem region_in_round {S : World → Prop} {id : Nat} {ops : Array Oper} {a : Act} {w : World} (hm : P.follows .mixedOrders = true) (hops : noDefB ops = true) (hS : S w.drew)
  (h : S w.drew → wpAnyH P .any ops (OnlyN Q) S ops.size (Array.replicate ops.size false) a w.drew) : (Code.region id ops true).wpIn (Fence.wide.inRound l) n P Q a w :=
 wpIn_mono (wpIn_region_any hm (any_in hops _ _ _ _ (wpAny_of_held _ _ _ _ (h hS)))) OnlyN.imp
end
end
end Go.Proofs.YtbnpjoiojhnimaaGreatDoor
