import Derived.Test.YtbnpjoiojhnimaaGreatDoorG4
import Derived.Maps.Own
import Derived.Maps.Views
import Derived.Maps.OwnSet
import Derived.Maps.AppendAt
set_option linter.unusedSimpArgs false
set_option linter.unusedVariables false
/- decodable.residuals$1 (the closure 'add'): its contract. -/
namespace Go.Proofs.YtbnpjoiojhnimaaGreatDoor
open Go.Maps Go.RowKit
theorem strLawR : Keyed Tryz.prog 9 := string_keyed Tryz.underlying9
def BSet (D : DataW Unit) (S : List (List UInt8)) : Prop := IsMap D ∧ ∀ x, D.atKey (.string x) (.lit (.bool false)) = .lit (.bool (decide (x ∈ S)))
theorem BSet.put {D : DataW Unit} {S : List (List UInt8)} (h : BSet D S) (x : List UInt8) : BSet (D.put (.string x) (.lit (.bool true))) (S ++ [x]) := by
 obtain ⟨hD, h⟩ := h
 refine ⟨by obtain ⟨es, rfl⟩ := hD; exact ⟨_, rfl⟩, fun y => ?_⟩
 by_cases e : y = x
 ·subst e
  rw [atKey_put_same hD (by unfold WideAt.IsKeyLit; trivial)]
  simp
 ·rw [atKey_put_other (by simpa using e), h y]
  simp [e]
theorem wpList_appR {w : World} {ops : Array Oper} {rest : List Oper} {o : Oper} {a : Act} {Q : Exit → Act → World → Prop} (hgd : o.guard = none) (s x : Operand)
  (ho : o.op = .call { callee := .builtin .append, args := #[s, x], argTypes := #[25, 25] })
  (B : Nat) (v : Value) (xs : List ByteArray) (hs : a.eval s = v) (hown : Strs w B v xs)
  (g m : Nat) (news : List ByteArray) (hx : a.eval x = .slice (some ⟨g, 0, none⟩) m m) (hl : news.length = m) (hblk : w.heap[g]? = some (.cells (news.map Value.string).toArray 9 (0, 0)))
  (hb : xs.length + m ≤ 4294967296) (hbase : B ≤ w.heap.size)
  (h : ∀ v' w', Strs w' B v' (xs ++ news) → w.grownBy w' v.ownBlock → (v'.ownBlock = v.ownBlock ∨ v'.ownBlock = some w.heap.size) → wpList Tryz.prog ops Q rest (a.put o.dst v') w') : wpList Tryz.prog ops Q (o :: rest) a w := by
 obtain ⟨i0, hi, hz0, hz1, hz2⟩ := info_parts infoStr
 refine wpList_append_own_at w hgd s x 25 ho B 9 i0 _ 1 16 Tryz.underlying25 hi hz0 hz1 hz2 rfl (by decide) v xs.length (xs.map Value.string) hs hown ⟨g, 0, none⟩ m m (news.map Value.string) hx (by simp [hl]) ?_ ?_ (by unfold maxLen; omega) (by omega) hbase ?_
 ·intro j u hj
  have : (⟨g, 0, none⟩ : Addr).add j = ⟨g, j, none⟩ := by unfold Addr.add; split <;> simp_all
  rw [this, cell_of_row w g j _ 9 (0, 0) hblk]
  simpa using hj
 ·intro u hu
  obtain ⟨b, _, rfl⟩ := List.mem_map.1 hu
  rfl
 ·intro v' w' h1 h2 _ h4
  refine h v' w' ?_ h2 h4
  unfold Strs
  rw [List.length_append, hl, List.map_append]
  exact h1
theorem Strs.keptR {w w' : World} {B : Nat} {v : Value} {xs : List ByteArray} {row : Option Nat} (h : Strs w B v xs) (hg : w.grownBy w' row) (hne : v.ownBlock = none ∨ v.ownBlock ≠ row) : Strs w' B v xs := World.ownsRow.kept h hg hne
def RSt (w : World) (mb cm co B : Nat) (v : Value) (out : List ByteArray) : Prop := ∃ D, w.cell? ⟨cm, 0, none⟩ = some (.map (some mb)) ∧ w.ownsMap Tryz.prog 9 (plainElem (H := Unit) Tryz.prog 4) mb out.length D ∧ BSet D (out.map fun x => x.data.toList) ∧
 w.cell? ⟨co, 0, none⟩ = some v ∧ w.frozen? ⟨co, 0, none⟩ = false ∧ Strs w B v out ∧ mb < cm ∧ cm < co ∧ co < B ∧ B ≤ w.heap.size
structure KX (mb co : Nat) (row : Option Nat) (w w' : World) : Prop where
 os : w'.os = w.os
 tape : w'.tape = w.tape
 output : w'.output = w.output
 size : w.heap.size ≤ w'.heap.size
 block : ∀ k, k < w.heap.size → k ≠ mb → k ≠ co → some k ≠ row → w'.heap[k]? = w.heap[k]?
def add1R (out : List ByteArray) (r : ByteArray) : List ByteArray := if r.data.toList ∈ out.map (fun x => x.data.toList) then out else out ++ [r]
theorem zeroBool (W : World) : (zeroValue 4).run Tryz.prog W = .ok (.bool false) W := by
 have h : (Tryz.prog.info? 4).map (·.zero) = some (some (.bool false)) := by kernel_rfl
 cases hq : Tryz.prog.info? 4 with
 | none => rw [hq] at h; cases h
 | some i =>
  rw [hq] at h
  simp at h
  simp [zeroValue, typeInfo, hq, h]
theorem mem_raw {r : ByteArray} {out : List ByteArray} : r.data.toList ∈ out.map (fun x => x.data.toList) ↔ r ∈ out := by
 constructor
 ·intro h
  obtain ⟨x, hx, e⟩ := List.mem_map.1 h
  have : x = r := by cases x; cases r; simp at e; simp [e]
  exact this ▸ hx
 ·exact fun h => List.mem_map.2 ⟨r, h, rfl⟩
def AddPost (mb cm co B : Nat) (v : Value) (out : List ByteArray) (w w' : World) : Prop :=
 (∃ v', RSt w' mb cm co B v' out ∧ (v'.ownBlock = v.ownBlock ∨ ∃ g, w.heap.size ≤ g ∧ v'.ownBlock = some g)) ∧ KX mb co v.ownBlock w w'
theorem KX.refl (mb co : Nat) (row : Option Nat) (w : World) : KX mb co row w w := ⟨rfl, rfl, rfl, Nat.le_refl _, fun _ _ _ _ _ => rfl⟩
theorem grown_set (w : World) (b : Nat) (v : Value) : w.grownBy (w.setCell ⟨b, 0, none⟩ v) (some b) :=
 ⟨rfl, rfl, rfl, by simp [World.setCell], fun k _ hne => Below.heap_setCell w ⟨b, 0, none⟩ v k (by simpa using hne)⟩
set_option maxRecDepth 100000 in
set_option maxHeartbeats 4000000 in
theorem rAdd_any (r : ByteArray) (hr : r.size ≤ 65536) (mb cm co B : Nat) (v : Value) (out : List ByteArray) (w : World) (h : RSt w mb cm co B v out) (hl : out.length < 100000000) :
  Calls Tryz.prog 181 #[.string r, .pointer (some ⟨cm, 0, none⟩), .pointer (some ⟨co, 0, none⟩)] w fun e w' => e = .returned (.tuple #[]) ∧ AddPost mb cm co B v (add1R out r) w w' := by
 obtain ⟨D, hcm, hown, hBS, hco, hfz, hst, h1, h2, h3, h4⟩ := id h
 have hkey := WideMaps.keyOf_string_mk (P := Tryz.prog) Tryz.underlying9 (show r.size ≤ maxLen by unfold maxLen; omega)
 obtain ⟨vv, ps, hrun, hv⟩ := hown.lookup strLawR Tryz.underlying184 (zeroBool w) (zd := .lit (.bool false)) (plainElem_bool Tryz.underlying4 false) hkey
 by_cases hi : r ∈ out
 ·rw [hBS.2, decide_eq_true (mem_raw.2 hi)] at hv
  have hvv : vv = .bool true := by
   unfold plainElem at hv
   rw [Tryz.underlying4] at hv
   cases vv <;> simp at hv
   rw [hv.1]
  subst hvv
  have HP := hide (show AddPost mb cm co B v (add1R out r) w w by rw [add1R, if_pos (mem_raw.2 hi)]; exact ⟨⟨v, h, .inl rfl⟩, KX.refl _ _ _ _⟩)
  clear hv hown hBS hst hkey h
  go_enter Tryz.func181, Tryz.ntmps181
  go_wp2
  go_end0
  exact ⟨rfl, HP.out⟩
 ·rw [hBS.2, decide_eq_false (fun h => hi (mem_raw.1 h))] at hv
  have hvv : vv = .bool false := by
   unfold plainElem at hv
   rw [Tryz.underlying4] at hv
   cases vv <;> simp at hv
   rw [hv.1]
  subst hvv
  obtain ⟨w2, hrun2, hm2, hg2⟩ := hown.update strLawR Tryz.underlying184 (by unfold maxLen; omega) hkey (plainElem_bool Tryz.underlying4 true)
  have hco2 := hg2.cell hco (by simp; omega)
  have hcm2 := hg2.cell hcm (by simp; omega)
  have hfz2 : w2.frozen? ⟨co, 0, none⟩ = false := (World.frozen?_of_block (hg2.block co (World.block_lt_of_cell? w _ hco) (by simp; omega))).trans hfz
  have hne : v.ownBlock = none ∨ v.ownBlock ≠ some mb := by
   rcases hst.2 with ⟨rfl, _⟩ | ⟨g, cap, cur, rfl, hb, _⟩
   ·exact .inl rfl
   ·exact .inr (by simp [Value.ownBlock]; omega)
  have hst2 := hst.keptR hg2 hne
  have hs2 := hg2.size
  have HBS2 := hide (hBS.put r.data.toList)
  have HG2 := hide hg2
  have HM2 := hide hm2
  have hst3 : Strs (w2.alloc (.cells #[.string r] 9)) B v out := hst2.alloc _
  have hblk := heap_alloc_new w2 (.cells #[.string r] 9)
  have HADD := hide (show add1R out r = out ++ [r] by rw [add1R, if_neg (fun h => hi (mem_raw.1 h))])
  clear hv hown hBS hst hst2 hkey h hg2 hm2 hi
  go_enter Tryz.func181, Tryz.ntmps181
  have hco3 : ∀ w', (w2.alloc (.cells #[.string r] 9)).grownBy w' v.ownBlock → w'.cell? ⟨co, 0, none⟩ = some v ∧ w'.frozen? ⟨co, 0, none⟩ = false := by
   intro w' hg
   have hl2 := World.block_lt_of_cell? w2 _ hco2
   have ho : some co ≠ v.ownBlock := by
    rcases hst3.2 with ⟨rfl, _⟩ | ⟨g, cap, cur, rfl, hb, _⟩
    ·simp [Value.ownBlock]
    ·simp [Value.ownBlock]; omega
   have e := hg.block co (by simp; simp at hl2; omega) ho
   refine ⟨(World.cell?_of_block e).trans ((World.cell?_alloc_lt _ _ _ hl2).trans hco2), (World.frozen?_of_block e).trans ?_⟩
   exact (World.frozen?_of_block (Below.heap_alloc _ _ _ hl2)).trans hfz2
  go_wp2_with (at_builtin; refine wpList_appR rfl _ _ rfl B v out rfl hst3 w2.heap.size 1 [r] rfl rfl hblk (by omega) (by simp; omega) ?_; intro v' w' hS hg hvb; obtain ⟨hco4, hfz4⟩ := hco3 w' hg; obtain ⟨ad, cap, rfl⟩ := hS.shape)
  go_end0
  refine ⟨rfl, ?_⟩
  rw [HADD.out]
  have hl2 := World.block_lt_of_cell? w2 _ hcm2
  have hg5 : w'.grownBy (w'.setCell ⟨co, 0, none⟩ (.slice ad (out.length + 1) cap)) (some co) := grown_set w' co _
  have hob : ∀ k, k < B → some k ≠ v.ownBlock := by
   intro k hk
   rcases hst3.2 with ⟨rfl, _⟩ | ⟨g, cap, cur, rfl, hb, _⟩
   ·simp [Value.ownBlock]
   ·simp [Value.ownBlock]; omega
  have hS' : Strs w' B (.slice ad (out.length + 1) cap) (out ++ [r]) := by simpa using hS
  have hob2 : some co ≠ (Value.slice ad (out.length + 1) cap).ownBlock := by
   rcases hS'.2 with ⟨e, _⟩ | ⟨g, cap, cur, e, hb, _⟩
   ·rw [e]; simp [Value.ownBlock]
   ·rw [e]; simp [Value.ownBlock]; omega
  have hs3 := hg.size
  rw [World.size_alloc] at hs3
  refine ⟨⟨.slice ad (out.length + 1) cap, ⟨D.put (.string r.data.toList) (.lit (.bool true)), ?_, ?_, ?_, ?_, ?_, ?_, h1, h2, h3, ?_⟩, ?_⟩, ?_⟩
  ·exact hg5.cell (hg.cell ((World.cell?_alloc_lt _ _ _ hl2).trans hcm2) (hob _ (by show cm < B; omega))) (by simp; omega)
  ·rw [List.length_append]
   exact ((HM2.out.alloc _).kept hg (hob _ (by omega))).kept hg5 (by simp; omega)
  ·rw [List.map_append]
   exact HBS2.out
  ·exact World.cell?_setCell_same _ _ _ hco4
  ·rw [World.frozen?_setCell]; exact hfz4
  ·exact hS'.keptR hg5 (.inr (Ne.symm hob2))
  ·have := hg5.size; omega
  ·rcases hvb with e | e
   ·exact .inl (by simpa [Value.ownBlock] using e)
   ·exact .inr ⟨(w2.alloc (.cells #[.string r] 9)).heap.size, by rw [World.size_alloc]; omega, by simpa [Value.ownBlock] using e⟩
  ·exact ⟨rfl.trans (hg.os.trans HG2.out.os), hg.tape.trans HG2.out.tape, hg.output.trans HG2.out.output, by have := hg5.size; omega, fun k hk k1 k2 k3 =>
    (hg5.block k (by omega) (by simpa using k2)).trans ((hg.block k (by simp; omega) k3).trans ((Below.heap_alloc _ _ _ (by omega)).trans (HG2.out.block k hk (by simpa using k1))))⟩
end Go.Proofs.YtbnpjoiojhnimaaGreatDoor
