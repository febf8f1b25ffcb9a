import Derived.Test.YtbnpjoiojhnimaaGreatDoorG2
import Derived.Test.YtbnpjoiojhnimaaGreatDoorG4
import Derived.Maps.Own
import Derived.Maps.Views
import Derived.Maps.OwnSet
import Derived.Maps.AppendAt
import Derived.Sort.MapsRangeIn
import Derived.Sort.KeysCollected
set_option linter.unusedSimpArgs false
set_option linter.unusedVariables false
/- A map from strings to strings that the call owns; decodable.message$1 (its closure 'add'): its contract. -/
namespace Go.Proofs.YtbnpjoiojhnimaaGreatDoor
open Go.Maps Go.RowKit
def heldS (v : Value) : Option (DataW Value × List MemPlace) := some (.held v, [])
theorem Tryz.underlyingSmap : Tryz.prog.underlying 230 = some (.map 9 9) := by kernel_rfl
theorem strLawS : Keyed Tryz.prog 9 := string_keyed Tryz.underlying9
theorem zeroStr (W : World) : (zeroValue 9).run Tryz.prog W = .ok (.string ⟨#[]⟩) W := by
 have h : (Tryz.prog.info? 9).map (·.zero) = some (some (.string ⟨#[]⟩)) := by kernel_rfl
 cases hq : Tryz.prog.info? 9 with
 | none => rw [hq] at h; cases h
 | some i =>
  rw [hq] at h
  simp at h
  simp [zeroValue, typeInfo, hq, h]
abbrev Tbl := List UInt8 → Option ByteArray
def Tbl.put (f : Tbl) (r : List UInt8) (w : ByteArray) : Tbl := fun z => if z = r then some w else f z
def TblD (D : DataW Value) (f : Tbl) : Prop := IsMap D ∧ ∀ z, has D (.string z) = (f z).isSome ∧ ∀ x, f z = some x → ∀ zd, D.atKey (.string z) zd = .held (.string x)
def MapS (w : World) (B n : Nat) (f : Tbl) : Prop := ∃ D, w.ownsMap Tryz.prog 9 heldS B n D ∧ TblD D f
theorem MapS.kept {w w' : World} {B n : Nat} {f : Tbl} {row : Option Nat} (h : MapS w B n f) (hg : w.grownBy w' row) (hne : some B ≠ row) : MapS w' B n f := by
 obtain ⟨D, h1, h2⟩ := h
 exact ⟨D, h1.kept hg hne, h2⟩
theorem MapS.made (w : World) : MapS (w.alloc (.map #[] 0)) w.heap.size 0 (fun _ => none) := ⟨_, World.ownsMap_made w _ _ _, ⟨[], rfl⟩, fun z => ⟨rfl, fun x h => nomatch h⟩⟩
theorem MapS.lt {w : World} {B n : Nat} {f : Tbl} (h : MapS w B n f) : B < w.heap.size := by obtain ⟨D, h1, _⟩ := h; exact h1.lt
theorem MapS.mono {w : World} {B n m : Nat} {f : Tbl} (h : MapS w B n f) (hm : n ≤ m) : MapS w B m f := by
 obtain ⟨D, h1, h2⟩ := h
 exact ⟨D, h1.mono hm, h2⟩
def getS (f : Tbl) (z : List UInt8) : ByteArray := (f z).getD ⟨#[]⟩
theorem MapS.look {w : World} {B n : Nat} {f : Tbl} (h : MapS w B n f) (z : ByteArray) (hz : z.size ≤ maxLen) :
  (Instr.lookup 230 (.map (some B)) (.string z) true).run Tryz.prog w = .ok (.tuple #[.string (getS f z.data.toList), .bool (f z.data.toList).isSome]) w := by
 obtain ⟨D, h1, h2⟩ := h
 obtain ⟨v, ps, hr, hv⟩ := h1.look_ok strLawS Tryz.underlyingSmap (z := .string ⟨#[]⟩) (zeroStr w) (zd := .held (.string ⟨#[]⟩)) (zp := []) rfl (WideMaps.keyOf_string_mk (P := Tryz.prog) Tryz.underlying9 hz)
 rw [hr, (h2.2 z.data.toList).1]
 have hv' : DataW.held v = D.atKey (.string z.data.toList) (.held (.string ⟨#[]⟩)) := congrArg Prod.fst (Option.some.inj hv)
 have e : v = .string (getS f z.data.toList) := by
  unfold getS
  cases hf : f z.data.toList with
  | some x => rw [(h2.2 _).2 x hf] at hv'; simpa using hv'
  | none =>
   have := (h2.2 z.data.toList).1
   rw [hf] at this
   rw [atKey_of_not_has this] at hv'
   simpa using hv'
 rw [e]
theorem MapS.get {w : World} {B n : Nat} {f : Tbl} (h : MapS w B n f) (z : ByteArray) (hz : z.size ≤ maxLen) :
  (Instr.lookup 230 (.map (some B)) (.string z) false).run Tryz.prog w = .ok (.string (getS f z.data.toList)) w := by
 obtain ⟨D, h1, h2⟩ := h
 obtain ⟨v, ps, hr, hv⟩ := h1.lookup strLawS Tryz.underlyingSmap (z := .string ⟨#[]⟩) (zeroStr w) (zd := .held (.string ⟨#[]⟩)) (zp := []) rfl (WideMaps.keyOf_string_mk (P := Tryz.prog) Tryz.underlying9 hz)
 rw [hr]
 have hv' : DataW.held v = D.atKey (.string z.data.toList) (.held (.string ⟨#[]⟩)) := congrArg Prod.fst (Option.some.inj hv)
 have e : v = .string (getS f z.data.toList) := by
  unfold getS
  cases hf : f z.data.toList with
  | some x => rw [(h2.2 _).2 x hf] at hv'; simpa using hv'
  | none =>
   have := (h2.2 z.data.toList).1
   rw [hf] at this
   rw [atKey_of_not_has this] at hv'
   simpa using hv'
 rw [e]
theorem TblD.put {D : DataW Value} {f : Tbl} (h : TblD D f) (r : List UInt8) (w : ByteArray) : TblD (D.put (.string r) (.held (.string w))) (f.put r w) := by
 refine ⟨h.1.put _ _, fun z => ?_⟩
 unfold Tbl.put
 by_cases e : z = r
 ·subst e
  rw [if_pos rfl, has_put_same h.1 (by unfold WideAt.IsKeyLit; trivial)]
  refine ⟨rfl, fun x hx zd => ?_⟩
  cases hx
  exact atKey_put_same h.1 (by unfold WideAt.IsKeyLit; trivial) _ _
 ·have hne : Lit.string z ≠ .string r := by simpa using e
  rw [if_neg e, has_put_other hne]
  exact ⟨(h.2 z).1, fun x hx zd => by rw [atKey_put_other hne]; exact (h.2 z).2 x hx zd⟩
theorem MapS.store {w : World} {B n : Nat} {f : Tbl} (h : MapS w B n f) (hn : n ≤ 1000000000) (r x : ByteArray) (hr : r.size ≤ maxLen) :
  ∃ w', (Instr.mapUpdate 230 (.map (some B)) (.string r) (.string x)).run Tryz.prog w = .ok () w' ∧ MapS w' B (n + 1) (f.put r.data.toList x) ∧ w.grownBy w' (some B) := by
 obtain ⟨D, hD, hF⟩ := h
 obtain ⟨w', hrun, ho, hg⟩ := hD.update (val := .string x) (ps := []) strLawS Tryz.underlyingSmap (by unfold maxLen; omega) (WideMaps.keyOf_string_mk (P := Tryz.prog) Tryz.underlying9 hr) rfl
 exact ⟨w', hrun, ⟨_, ho, hF.put _ _⟩, hg⟩
def addM (f : Tbl) (r w : ByteArray) : Tbl := if w.size ≤ 4096 ∧ ((f r.data.toList).isSome = false ∨ cmpW w.data.toList (getS f r.data.toList).data.toList < 0) then f.put r.data.toList w else f
set_option maxRecDepth 100000 in
set_option maxHeartbeats 4000000 in
theorem msAdd_any (r x : ByteArray) (hr : r.size ≤ 65536) (B cb n : Nat) (f : Tbl) (w : World) (h : MapS w B n f) (hn : n ≤ 1000000000) (hc : w.cell? ⟨cb, 0, none⟩ = some (.map (some B))) (hne : cb ≠ B) :
  Calls Tryz.prog 174 #[.string r, .string x, .pointer (some ⟨cb, 0, none⟩)] w fun e w' => e = .returned (.tuple #[]) ∧ MapS w' B (n + 1) (addM f r x) ∧ w.grownBy w' (some B) := by
 have hlook := h.look r (by unfold maxLen; omega)
 have hOrd := hide (fun W => dcorder_any x (getS f r.data.toList) W)
 obtain ⟨old, hold⟩ : ∃ old, getS f r.data.toList = old := ⟨_, rfl⟩
 obtain ⟨ok, hok⟩ : ∃ ok, (f r.data.toList).isSome = ok := ⟨_, rfl⟩
 rw [hold, hok] at hlook
 rw [hold] at hOrd
 have hF : addM f r x = if x.size ≤ 4096 ∧ (ok = false ∨ cmpW x.data.toList old.data.toList < 0) then f.put r.data.toList x else f := by
  unfold addM; rw [hold, hok]
 rw [hF]
 clear hF hold hok
 have HM := hide h
 clear h
 by_cases h1 : x.size ≤ 4096
 ·by_cases h2 : ok = false
  ·subst h2
   obtain ⟨w2, hrun, hm2, hg2⟩ := HM.out.store hn r x (by unfold maxLen; omega)
   rw [if_pos ⟨h1, .inl rfl⟩]
   have H2 := hide (And.intro hm2 hg2)
   have h1' : (x.size : Int) ≤ 4096 := by omega
   clear hm2 hg2 hOrd HM
   go_enter Tryz.func174, Tryz.ntmps174
   go_wp2
   go_end0
   exact ⟨rfl, H2.out.1, H2.out.2⟩
  ·obtain rfl : ok = true := by cases ok <;> simp_all
   obtain ⟨c, hcv⟩ : ∃ c, cmpW x.data.toList old.data.toList = c := ⟨_, rfl⟩
   rw [hcv] at hOrd ⊢
   clear hcv h2
   have h1' : (x.size : Int) ≤ 4096 := by omega
   have hlt := World.block_lt_of_cell? w _ hc
   by_cases h3 : c < 0
   ·have hm1 : MapS (w.alloc (Obj.cells #[Value.int IntKind.i64 (Lib.compareInt x.size old.size), Value.int IntKind.i64 (Lib.compareBytes x.data.toList old.data.toList)] 3)) B n f := HM.out.kept (World.grownBy_alloc _ _ none) (by simp)
    have hg1 : w.grownBy (w.alloc (Obj.cells #[Value.int IntKind.i64 (Lib.compareInt x.size old.size), Value.int IntKind.i64 (Lib.compareBytes x.data.toList old.data.toList)] 3)) (some B) := World.grownBy_alloc _ _ _
    have hc1 := (World.cell?_alloc_lt w (Obj.cells #[Value.int IntKind.i64 (Lib.compareInt x.size old.size), Value.int IntKind.i64 (Lib.compareBytes x.data.toList old.data.toList)] 3) ⟨cb, 0, none⟩ hlt).trans hc
    obtain ⟨w2, hrun, hm2, hg2⟩ := hm1.store hn r x (by unfold maxLen; omega)
    rw [if_pos ⟨h1, .inr h3⟩]
    have H2 := hide (And.intro hm2 (hg1.trans hg2))
    clear hm2 hg2 hg1 hm1 HM hlt
    go_enter Tryz.func174, Tryz.ntmps174
    go_wp2_with fail
    (with_reducible refine (hOrd.out _).mono ?_)
    rintro e w' ⟨rfl, rfl⟩
    clear hOrd
    go_wp2
    go_end0
    exact ⟨rfl, H2.out.1, H2.out.2⟩
   ·have hg1 : w.grownBy (w.alloc (Obj.cells #[Value.int IntKind.i64 (Lib.compareInt x.size old.size), Value.int IntKind.i64 (Lib.compareBytes x.data.toList old.data.toList)] 3)) (some B) := World.grownBy_alloc _ _ _
    have hm1 : MapS (w.alloc (Obj.cells #[Value.int IntKind.i64 (Lib.compareInt x.size old.size), Value.int IntKind.i64 (Lib.compareBytes x.data.toList old.data.toList)] 3)) B (n + 1) f := (HM.out.kept (World.grownBy_alloc _ _ none) (by simp)).mono (by omega)
    rw [if_neg (by rintro ⟨_, h | h⟩ <;> simp_all)]
    have H2 := hide (And.intro hm1 hg1)
    have h3' : ¬ c < 0 := h3
    clear hg1 hm1 HM hlt h3
    go_enter Tryz.func174, Tryz.ntmps174
    go_wp2_with fail
    (with_reducible refine (hOrd.out _).mono ?_)
    rintro e w' ⟨rfl, rfl⟩
    clear hOrd
    go_wp2
    go_end0
    exact ⟨rfl, H2.out.1, H2.out.2⟩
 ·rw [if_neg (fun h => h1 h.1)]
  have H2 := hide (HM.out.mono (Nat.le_succ n))
  have h1' : ¬ (x.size : Int) ≤ 4096 := by omega
  clear HM hOrd h1
  go_enter Tryz.func174, Tryz.ntmps174
  go_wp2
  go_end0
  exact ⟨rfl, H2.out, World.grownBy.refl _ _⟩
end Go.Proofs.YtbnpjoiojhnimaaGreatDoor
