import Derived.Maps.AppendAt
import Derived.Test.YtbnpjoiojhnimaaGreatDoorG35
import Derived.Lib.LazyBuf
import Derived.Test.YtbnpjoiojhnimaaGreatDoorG22
set_option linter.unusedSimpArgs false
set_option linter.unusedVariables false
/- slices.Clone at rows of edges that the call owns. -/
namespace Go.Proofs.YtbnpjoiojhnimaaGreatDoor
open Go.RowKit
theorem Eds.block_cells {w : World} {g : Nat} {cur : Array Value} {xs : List Edg} (hg : w.heap[g]? = some (.cells cur 72 (0, 0))) (ht : cur.toList.take (xs.length * 3) = xs.flatMap Edg.cells) (j : Nat) (hj : j < xs.length * 3) :
  w.cell? ⟨g, j, none⟩ = (xs.flatMap Edg.cells)[j]? := by
 rw [cell_of_row w g j _ 72 (0, 0) hg, ← ht, List.getElem?_take, if_pos hj]
 simp
theorem wpList_app_edrow {w : World} {ops : Array Oper} {rest : List Oper} {o : Oper} {a : Act} {Q : Exit → Act → World → Prop} (hgd : o.guard = none) (s x : Operand)
  (ho : o.op = .call { callee := .builtin .append, args := #[s, x], argTypes := #[22, 22] })
  (B : Nat) (v : Value) (xs : List Edg) (hs : a.eval s = v) (hown : Eds w B v xs)
  (g cap : Nat) (news : List Edg) (hx : a.eval x = .slice (some ⟨g, 0, none⟩) news.length cap) (hblk : ∀ k, k < news.length * 3 → w.cell? ⟨g, k, none⟩ = (news.flatMap Edg.cells)[k]?)
  (hb : xs.length + news.length ≤ 4294967296) (hbase : B ≤ w.heap.size)
  (h : ∀ v' w', Eds w' B v' (xs ++ news) → w.grownBy w' v.ownBlock → wpList Tryz.prog ops Q rest (a.put o.dst v') w') : wpList Tryz.prog ops Q (o :: rest) a w := by
 obtain ⟨i0, hi, hz0, hz1, hz2⟩ := info_parts infoEdge
 refine wpList_append_own_at w hgd s x 22 ho B 72 i0 _ 3 24 Tryz.underlying22 hi hz0 hz1 hz2 rfl (by decide) v xs.length (xs.flatMap Edg.cells) hs hown ⟨g, 0, none⟩ news.length cap (news.flatMap Edg.cells) hx (by rw [eds_len]) ?_ ?_ (by unfold maxLen; omega) (by omega) hbase ?_
 ·intro j u hj
  have : (⟨g, 0, none⟩ : Addr).add j = ⟨g, j, none⟩ := by unfold Addr.add; split <;> simp_all
  rw [this]
  have hl : j < news.length * 3 := by rw [← eds_len]; exact (List.getElem?_eq_some_iff.1 hj).1
  rw [hblk j hl, hj]
 ·intro u hu
  obtain ⟨b, _, hb⟩ := List.mem_flatMap.1 hu
  simp [Edg.cells] at hb
  rcases hb with rfl | rfl | rfl <;> rfl
 ·intro v' w' h1 h2 _ _
  refine h v' w' ?_ h2
  unfold Eds
  rw [List.length_append, List.flatMap_append]
  exact h1
set_option maxRecDepth 100000 in
set_option maxHeartbeats 1000000 in
theorem cloneE_any (B : Nat) (v : Value) (xs : List Edg) (w : World) (h : Eds w B v xs) (hm : xs.length ≤ 4294967296) :
  Calls Tryz.prog 224 #[v] w fun e w' => ∃ v', e = .returned v' ∧ Eds w' w.heap.size v' xs ∧ w.grownBy w' none := by
 have q22 : ∀ (w : World) (a : Option Addr) (n c n' c' : Nat), (binOp .eql 22 (.slice a n c) (.slice none n' c')).run Tryz.prog w = .ok (.bool a.isNone) w := fun w a n c n' c' => Lib.run_eql_slice_nil w _ _ a n c n' c' Tryz.underlying22
 rcases h.2 with ⟨rfl, h0⟩ | ⟨g, cap, cur, rfl, hbg, hg, hn, hmx, hs, ht⟩
 ·obtain rfl : xs = [] := List.eq_nil_of_length_eq_zero h0
  clear h
  go_enter Tryz.func224, Tryz.ntmps224
  go_wp2
  go_ret
  exact ⟨_, rfl, Eds.nil_ _ _, World.grownBy.refl _ _⟩
 ·have hgl := (Array.getElem?_eq_some_iff.1 hg).1
  obtain ⟨Z, hZ⟩ : ∃ Z, w.heap.size = Z := ⟨_, rfl⟩
  have he : Eds (w.alloc (.cells #[] 72)) Z (.slice (some ⟨Z, 0, none⟩) 0 0) [] := ⟨rfl, .inr ⟨Z, 0, #[], rfl, Nat.le_refl _, hZ ▸ heap_alloc_new w _, Nat.le_refl _, by decide, rfl, rfl⟩⟩
  have hcc : ∀ k, k < xs.length * 3 → (w.alloc (.cells #[] 72)).cell? ⟨g, k, none⟩ = (xs.flatMap Edg.cells)[k]? := fun k hk => (World.cell?_alloc_lt w (.cells #[] 72) ⟨g, k, none⟩ hgl).trans (Eds.block_cells hg ht k hk)
  rw [hZ] at hgl ⊢
  clear h hg ht hn hmx hs
  go_enter Tryz.func224, Tryz.ntmps224
  go_wp2_with (at_builtin; refine wpList_app_edrow rfl _ _ rfl Z _ [] rfl he g cap xs rfl hcc (by simp; omega) (by simp [hZ]) ?_; intro v' w' hS hg)
  obtain ⟨ad, cp, rfl⟩ := hS.shape
  have HS := hide hS
  have hg' : (w.alloc (.cells #[] 72)).grownBy w' (some Z) := hg
  have HG := hide (show w.grownBy w' none from ⟨hg'.os, hg'.tape, hg'.output, Nat.le_trans (by simp) hg'.size, fun k hk _ => (hg'.block k (by simp; omega) (by simp; omega)).trans (Below.heap_alloc _ _ _ hk)⟩)
  clear hg hg' hS
  go_ret
  exact ⟨_, rfl, by simpa using HS.out, HG.out⟩
end Go.Proofs.YtbnpjoiojhnimaaGreatDoor
