import Derived.Test.YtpppbkdbpbpinaaGreatDoorG13
import Derived.Test.YtpppbkdbpbpinaaGreatDoorG17
import Derived.Test.YtpppbkdbpbpinaaGreatDoorG10
set_option linter.unusedSimpArgs false
set_option linter.unusedVariables false
/- reset.Layers$1: the closure that puts a set at the end of the next layer; fresh with it. -/
set_option linter.unusedVariables false
namespace Go.Proofs.YtpppbkdbpbpinaaGreatDoor
open Go.RowKit Go.Maps
/-- the box of a variable of type []int -/
def VarI (w : World) (N : Nat) (v : Value) : Prop := w.heap[N]? = some (.cells #[v] 35 (0, 0))
section
variable {w w' : World} {N B : Nat} {v : Value} {zs : List Int}
theorem VarI.lt (h : VarI w N v) : N < w.heap.size := (Array.getElem?_eq_some_iff.1 h).1
theorem VarI.cell (h : VarI w N v) : w.cell? ⟨N, 0, none⟩ = some v := by rw [cell_of_row w N 0 _ _ _ h]; rfl
theorem VarI.free_ (h : VarI w N v) : w.frozen? ⟨N, 0, none⟩ = false := by unfold VarI at h; simp [World.frozen?, h]
theorem VarI.set_ (h : VarI w N v) (u : Value) : VarI (w.setCell ⟨N, 0, none⟩ u) N u := by
  unfold VarI at h ⊢
  simp [World.setCell, Array.getElem?_modify, h]
theorem varI_ne_map {M : Nat} {S : List Nat} (h : VarI w N v) (hm : SeenV w M S) : M ≠ N := by
  rintro rfl
  obtain ⟨es, clock, h0⟩ := hm.obj
  unfold VarI at h
  rw [h0] at h
  cases h
theorem Ints.move (h : Ints w B v zs) (hh : ∀ j, j < w.heap.size → some j = v.ownBlock → w'.heap[j]? = w.heap[j]?) : Ints w' B v zs := by
  refine ⟨h.1, ?_⟩
  rcases h.2 with hn | ⟨g, cap, cur, rfl, hbg, hg, rest⟩
  · exact .inl hn
  · exact .inr ⟨g, cap, cur, rfl, hbg, (hh g (Array.getElem?_eq_some_iff.1 hg).1 rfl).trans hg, rest⟩
theorem row_ne_var {u : Value} (h : Ints w B v zs) (hq : VarI w N u) : v.ownBlock ≠ some N := by
  intro e
  rcases h.2 with ⟨rfl, _⟩ | ⟨g, cap, cur, rfl, hbg, hg, rest⟩
  · cases e
  · simp [Value.ownBlock] at e
    subst e
    unfold VarI at hq
    rw [hq] at hg
    simp at hg
end
set_option maxRecDepth 100000 in
set_option maxHeartbeats 4000000 in
theorem zLayersf_any (k y N : Nat) (v : Value) (zs : List Int) (w : World) (hN : VarI w N v) (hv : Ints w (N + 1) v zs) (hl : zs.length ≤ 100000) :
    Calls Tryz.prog 53 #[.int .i64 k, .int .i64 y, .pointer (some ⟨N, 0, none⟩)] w fun e w' => e = .returned (.tuple #[]) ∧
      (∃ v', VarI w' N v' ∧ Ints w' (N + 1) v' (zs ++ [(y : Int)])) ∧ KeepA w w' ∧ Below N w w' := by
  have cN := hN.cell
  have lN := hN.lt
  have hva : Ints (w.alloc (Obj.cells #[.int .i64 y] 3)) (N + 1) v zs := hv.alloc _
  have hNa : VarI (w.alloc (Obj.cells #[.int .i64 y] 3)) N v := by unfold VarI; rw [heap_alloc_old w _ lN]; exact hN
  have hs : (w.alloc (Obj.cells #[.int .i64 y] 3)).heap.size = w.heap.size + 1 := by simp
  have HE : Hid (∀ (u : Value) (w2 : World), Ints w2 (N + 1) u (zs ++ [(y : Int)]) → (w.alloc (Obj.cells #[.int .i64 y] 3)).grownBy w2 v.ownBlock → VarI w2 N v →
      (∃ v', VarI (w2.setCell ⟨N, 0, none⟩ u) N v' ∧ Ints (w2.setCell ⟨N, 0, none⟩ u) (N + 1) v' (zs ++ [(y : Int)])) ∧ KeepA w (w2.setCell ⟨N, 0, none⟩ u) ∧ Below N w (w2.setCell ⟨N, 0, none⟩ u)) := by
    refine hide fun u w2 hv2 hg2 hN2 => ?_
    refine ⟨⟨u, hN2.set_ u, hv2.move fun j hj e => Below.heap_setCell w2 ⟨N, 0, none⟩ u j (fun e2 => row_ne_var hv2 hN2 (by rw [← e, e2]))⟩, fun j c hj => ?_, ?_⟩
    · have hjl : j < w.heap.size := (Array.getElem?_eq_some_iff.1 hj).1
      have hjN : j ≠ N := by
        rintro rfl
        unfold VarI at hN
        rw [hN] at hj
        simp at hj
      have hjg : some j ≠ v.ownBlock := by
        intro e
        rcases hv.2 with ⟨rfl, _⟩ | ⟨g, cap, cur, rfl, hbg, hg, rest⟩
        · cases e
        · simp [Value.ownBlock] at e
          subst e
          rw [hg] at hj
          simp at hj
      rw [Below.heap_setCell w2 ⟨N, 0, none⟩ u j hjN, hg2.block j (by rw [hs]; omega) hjg, heap_alloc_old w _ hjl]
      exact hj
    · refine Below.setCell (((Below.refl N w).alloc (by omega) _).grown hg2 (by rw [hs]; omega) (fun j e => ?_)) (Nat.le_refl N) u
      have := (World.ownsRow.lt hv _ e).1
      omega
  go_enter Tryz.func53, Tryz.ntmps53
  go_wp2_with (at_builtin; refine wpList_app_ints rfl (.tmp 5) (.tmp 7) rfl (N + 1) v zs rfl hva w.heap.size 1 [(y : Int)] rfl rfl (heap_alloc_new w _) (by omega) (by simp; omega) ?_; intro u w2 hv2 hg2; have hN2 : VarI w2 N v := (hg2.block N (by rw [hs]; omega) (fun e => row_ne_var hva hNa e.symm)).trans hNa; have cN2 := hN2.cell; have fN2 := hN2.free_; obtain ⟨a', c', rfl⟩ := hv2.shape)
  go_end0
  have H := HE.out _ w2 hv2 hg2 hN2
  rw [show (zs ++ [(y : Int)]).length = zs.length + 1 by simp] at H
  exact ⟨rfl, H⟩
set_option maxRecDepth 100000 in
set_option maxHeartbeats 4000000 in
theorem zfreshL_any (rows : List (List Int)) (L S : Nat) (A : Option Addr) (cc : Nat) (M B Q : Nat) (seen : List Nat) (I : World → List (Nat × Nat) → Prop) (w : World) (hA : Aut rows L) (hS : S < 2 ^ rows.length)
    (hRT : ∀ W, Below B w W → RowD W A rows ∧ TabZ W) (hBM : B ≤ M) (hB : B ≤ w.heap.size) (hM : SeenV w M seen) (hI : I w []) (hlen : seen.length ≤ 100000)
    (hk1 : ∀ W W' l, I W l → Below W.heap.size W W' → I W' l)
    (hk2 : ∀ W W' l T, SeenV W M T → I W l → W.grownBy W' (some M) → I W' l)
    (hc : ∀ W l k y, I W l → k < L → l.length ≤ k → y < 2 ^ rows.length → Calls Tryz.prog 53 #[.int .i64 (k : Nat), .int .i64 (y : Nat), .pointer (some ⟨Q, 0, none⟩)] W fun e W' => e = .returned (.tuple #[]) ∧ I W' (l ++ [(k, y)]) ∧ (∀ T, SeenV W M T → SeenV W' M T) ∧ KeepA W W' ∧ Below B W W') :
    Calls Tryz.prog 52 #[.agg #[.int .i64 L, .slice A rows.length cc], .int .i64 S, .map (some M), .func (.func 53) #[] #[.pointer (some ⟨Q, 0, none⟩)]] w fun e w' => e = .returned (.tuple #[]) ∧ I w' (frK rows S seen L) ∧ SeenV w' M (seen ++ snd (frK rows S seen L)) ∧ Below B w w' := by
  have hB0 : Below w.heap.size w (w.alloc (Obj.cells #[.int .i64 L, .slice A rows.length cc] 24)) := (Below.refl _ w).alloc (Nat.le_refl _) _
  obtain ⟨N, hNN⟩ : ∃ N, w.heap.size = N := ⟨_, rfl⟩
  have hbx : BoxA (w.alloc (Obj.cells #[.int .i64 L, .slice A rows.length cc] 24)) N L A rows.length cc := by rw [← hNN]; exact heap_alloc_new w _
  have k0 := hbx.c0
  have k1 := hbx.c1
  have hI1 := hk1 _ _ _ hI hB0
  have hM1 := hM.belowL hB0 (Nat.le_refl _)
  have hB1 : Below B w (w.alloc (Obj.cells #[.int .i64 L, .slice A rows.length cc] 24)) := hB0.mono hB
  have hl3 := hA.l3
  have HA := hide hA
  have HS := hide hS
  have HRT := hide hRT
  have HK1 := hide hk1
  have HK2 := hide hk2
  have HC := hide hc
  clear hA hS hRT hk1 hk2 hc hM hI hB0
  go_enter Tryz.func52, Tryz.ntmps52
  go_wp2
  generalize w.alloc (Obj.cells #[.int .i64 L, .slice A rows.length cc] 24) = W1 at hB1 hbx k0 k1 hI1 hM1 ⊢
  clear k0 k1
  go_loopw [12] (fun iv wr => ∃ k : Nat, iv = .int .i64 k ∧ k ≤ L ∧ BoxA wr N L A rows.length cc ∧ I wr (frK rows S seen k) ∧ SeenV wr M (seen ++ snd (frK rows S seen k)) ∧ Below B w wr) (fun iv _ => L - (intOf iv).toNat)
  case atStart => exact ⟨0, rfl, Nat.zero_le _, hbx, hI1, by simpa [snd, frK] using hM1, hB1⟩
  case round =>
    obtain ⟨k, rfl, hk, hbx, hIk, hMk, hBk⟩ := hrel
    clear hI1 hM1 hB1
    by_cases hkl : k < L
    · have hgY := hide (frK_yes (rows := rows) (S := S) (seen := seen) (c := k))
      have hgN := hide (frK_no (rows := rows) (S := S) (seen := seen) (c := k))
      have hfl := frK_len (rows := rows) (S := S) (seen := seen) k
      have hy64 := HA.out.img_lt hkl S
      have hy2 : img rows S k < 64 := Nat.lt_of_lt_of_le hy64 HA.out.pow
      have HST : Hid (Calls Tryz.prog 118 #[.agg #[.int .i64 L, .slice A rows.length cc], .int .i64 S, .int .i64 k] wr fun e w' => e = .returned (.int .i64 (img rows S k)) ∧ Below wr.heap.size wr w') :=
        hide (zstep_any rows L S k A cc wr HA.out hkl HS.out (HRT.out wr hBk).1 (HRT.out wr hBk).2)
      obtain ⟨y, hy⟩ : ∃ y, img rows S k = y := ⟨_, rfl⟩
      rw [hy] at hgY hgN hy64 hy2 HST
      generalize frK rows S seen k = G at hIk hMk hgY hgN hfl
      have hlk : (seen ++ snd G).length ≤ 1000000 := by simp [snd]; omega
      have k0 := hbx.c0
      have k1 := hbx.c1
      have hBs := hBk.size
      clear hy
      by_cases hm : y ∈ seen ++ snd G
      · have HG := hide (hgY.out hm)
        replace hm := hide hm
        clear hgN hgY
        go_wp2_with (go_at_call 118; refine (HST.out).mono ?_; rintro e w3 ⟨rfl, hB3⟩; have hM3 := hMk.belowL hB3 (Nat.le_refl _); have hlook := hM3.look y (by omega); rw [decide_eq_true hm.out] at hlook)
        go_roundw
        case rel => exact ⟨k + 1, by go_num, hkl, (hB3.block N hbx.lt).trans hbx, by rw [HG.out]; exact HK1.out _ _ _ hIk hB3, by rw [HG.out]; exact hM3, hBk.trans (hB3.mono (by omega))⟩
        case measure => simp [intOf]; omega
      · have HG := hide (hgN.out hm)
        replace hm := hide hm
        clear hgN hgY
        go_wp2_with (first
          | (go_at_call 118; refine (HST.out).mono ?_; rintro e w3 ⟨rfl, hB3⟩; have hM3 := hMk.belowL hB3 (Nat.le_refl _); have hlook := hM3.look y (by omega); rw [decide_eq_false hm.out] at hlook; obtain ⟨w4, hrun, hM4, hg4⟩ := hM3.store hlk y (by omega); have hI4 := HK2.out _ _ _ _ hM3 (HK1.out _ _ _ hIk hB3) hg4)
          | (go_at_call 53; refine (HC.out _ _ k y hI4 hkl hfl hy64).mono ?_; rintro e w5 ⟨rfl, hI5, hM5, hA5, hB5⟩))
        go_roundw
        case rel =>
          have hbx3 : BoxA w3 N L A rows.length cc := (hB3.block N hbx.lt).trans hbx
          have hbx4 : BoxA w4 N L A rows.length cc := (hg4.block N hbx3.lt (boxA_ne_map hbx3 hM3)).trans hbx3
          have hB4 := (hBk.trans (hB3.mono (by omega))).grown hg4 (by have := hB3.size; omega) (fun j e => by cases e; exact hBM)
          refine ⟨k + 1, by go_num, hkl, hA5 _ _ hbx4, by rw [HG.out]; exact hI5, ?_, hB4.trans hB5⟩
          rw [HG.out, show snd (G ++ [(k, y)]) = snd G ++ [y] by simp [snd], ← List.append_assoc]
          exact hM5 _ hM4
        case measure => simp [intOf]; omega
    · obtain rfl : k = L := by omega
      go_wp2
      go_end0
      exact ⟨rfl, hIk, hMk, hBk⟩
end Go.Proofs.YtpppbkdbpbpinaaGreatDoor

/- Rows of rows of ints that the call itself makes ([][]int). -/
set_option linter.unusedVariables false
namespace Go.Proofs.YtpppbkdbpbpinaaGreatDoor
open Go.RowKit Go.Maps
theorem infoIntsO : (Tryz.prog.info? 35).map (fun i => (i.zero, i.size, i.bytes)) = some (some (.slice none 0 0), 1, 24) := by kernel_rfl
/-- all blocks of cells are as they were -/
def KeepC (w w' : World) : Prop := ∀ (j : Nat) (c : Array Value) (t : TypeId), w.heap[j]? = some (Obj.cells c t (0, 0)) → w'.heap[j]? = some (Obj.cells c t (0, 0))
theorem KeepC.refl (w : World) : KeepC w w := fun _ _ _ h => h
theorem KeepC.trans {a b c : World} (h : KeepC a b) (k : KeepC b c) : KeepC a c := fun j d t e => k j d t (h j d t e)
theorem KeepC.below {w w' : World} (h : Below w.heap.size w w') : KeepC w w' := fun j c t e => (h.block j (Array.getElem?_eq_some_iff.1 e).1).trans e
theorem KeepC.map_ {w w' : World} {M : Nat} {S : List Nat} (hm : SeenV w M S) (hg : w.grownBy w' (some M)) : KeepC w w' := fun j c t e =>
  (hg.block j (Array.getElem?_eq_some_iff.1 e).1 (fun e2 => by
    cases e2
    obtain ⟨es, clock, h0⟩ := hm.obj
    rw [h0] at e
    cases e)).trans e
theorem Ints.keepC {w w' : World} {B : Nat} {v : Value} {zs : List Int} (h : Ints w B v zs) (hk : KeepC w w') : Ints w' B v zs := by
  refine ⟨h.1, ?_⟩
  rcases h.2 with hn | ⟨g, cap, cur, rfl, hbg, hg, rest⟩
  · exact .inl hn
  · exact .inr ⟨g, cap, cur, rfl, hbg, hk _ _ _ hg, rest⟩
theorem Ints.mono {w : World} {B B' : Nat} {v : Value} {zs : List Int} (h : Ints w B v zs) (hb : B' ≤ B) : Ints w B' v zs := by
  refine ⟨h.1, ?_⟩
  rcases h.2 with hn | ⟨g, cap, cur, rfl, hbg, hg, rest⟩
  · exact .inl hn
  · exact .inr ⟨g, cap, cur, rfl, by omega, hg, rest⟩
/-- the slice value v holds the rows ls, all of the call's own -/
def OutV (w : World) (B : Nat) (v : Value) (ls : List (List Int)) : Prop := ∃ vs : List Value, w.ownsRow B 35 1 v ls.length vs ∧ ∀ j (h : j < ls.length), ∃ u, vs[j]? = some u ∧ Ints w B u ls[j]
section
variable {w w' : World} {B : Nat} {v : Value} {ls : List (List Int)}
theorem OutV.nil_ (w : World) (B : Nat) : OutV w B (.slice none 0 0) [] := ⟨[], World.ownsRow_nil _ _ _ _, fun j h => by simp at h⟩
theorem OutV.empty_ {g : Nat} (hg : w.heap.size = g) (hB : B ≤ g) : OutV (w.alloc (.cells #[] 35)) B (.slice (some ⟨g, 0, none⟩) 0 0) [] := by
  subst hg
  exact ⟨[], World.ownsRow_made (base := B) (e := 35) (size := 1) w #[] 0 hB (by decide) rfl, fun j h => by simp at h⟩
theorem OutV.keepC (h : OutV w B v ls) (hk : KeepC w w') : OutV w' B v ls := by
  obtain ⟨vs, ⟨h1, h2⟩, h3⟩ := h
  refine ⟨vs, ⟨h1, ?_⟩, fun j hj => ?_⟩
  · rcases h2 with hn | ⟨g, cap, cur, rfl, hbg, hg, rest⟩
    · exact .inl hn
    · exact .inr ⟨g, cap, cur, rfl, hbg, hk _ _ _ hg, rest⟩
  · obtain ⟨u, hu, hI⟩ := h3 j hj
    exact ⟨u, hu, hI.keepC hk⟩
theorem OutV.shape (h : OutV w B v ls) : ∃ ad cap, v = .slice ad ls.length cap := by
  obtain ⟨vs, ⟨h1, h2⟩, h3⟩ := h
  rcases h2 with ⟨hv, hn⟩ | ⟨g, cap, cur, hv, _⟩
  · exact ⟨none, 0, by rw [hv, hn]⟩
  · exact ⟨_, cap, hv⟩
theorem OutV.drew (h : OutV w B v ls) : OutV w.drew B v ls := h
theorem OutV.alloc (h : OutV w B v ls) (o : Obj) : OutV (w.alloc o) B v ls := h.keepC fun j c t e => (heap_alloc_old w o (Array.getElem?_eq_some_iff.1 e).1).trans e
end
theorem intRow_out {w : World} {B B' : Nat} {v u : Value} {zs : List Int} {n : Nat} {vs : List Value} (h : Ints w B u zs) (h' : w.ownsRow B' 35 1 v n vs) : u.ownBlock = none ∨ u.ownBlock ≠ v.ownBlock := row_ne_row (by decide) h h'
theorem run_app_out (w : World) (ty : TypeId) (B : Nat) (v : Value) (ls : List (List Int)) (hown : OutV w B v ls) (g : Nat) (u : Value) (zs : List Int) (hu : Ints w B u zs)
    (hblk : w.heap[g]? = some (.cells #[u] 35 (0, 0))) (hb : ls.length + 1 ≤ 4294967296) (hbase : B ≤ w.heap.size) :
    ∃ v' w', (Builtin.append_ #[22, 22] ty #[v, .slice (some ⟨g, 0, none⟩) 1 1]).run Tryz.prog w = .ok v' w' ∧ OutV w' B v' (ls ++ [zs]) ∧ w.grownBy w' v.ownBlock := by
  obtain ⟨i0, hi, hz0, hz1, hz2⟩ := info_parts infoIntsO
  obtain ⟨vs, hrow, hin⟩ := hown
  obtain ⟨v', w', h1, h2, h3, _⟩ := run_append_own (P := Tryz.prog) w B 22 ty 35 i0 _ 1 24 Tryz.underlying22 hi hz0 hz1 hz2 rfl (by decide) v ls.length vs hrow ⟨g, 0, none⟩ 1 1 [u] rfl (by
      intro j x hj
      have : (⟨g, 0, none⟩ : Addr).add j = ⟨g, j, none⟩ := by unfold Addr.add; split <;> simp_all
      rw [this, cell_of_row w g j _ 35 (0, 0) hblk]
      simpa using hj) (by
      intro x hx
      obtain rfl : x = u := by simpa using hx
      obtain ⟨ad, cap, rfl⟩ := hu.shape
      rfl) (by unfold maxLen; omega) (by omega) hbase
  have hvl : vs.length = ls.length := by have := hrow.1; omega
  refine ⟨v', w', h1, ⟨vs ++ [u], by rw [List.length_append]; exact h2, fun j hj => ?_⟩, h3⟩
  rcases Nat.lt_or_ge j ls.length with hl | hl
  · obtain ⟨x, hx, hI⟩ := hin j hl
    exact ⟨x, by rw [List.getElem?_append_left (by omega)]; exact hx, by rw [List.getElem_append_left hl]; exact World.ownsRow.kept hI h3 (intRow_out hI hrow)⟩
  · have : j = ls.length := by simp at hj; omega
    subst this
    exact ⟨u, by rw [List.getElem?_append_right (by omega), hvl]; simp, by simp; exact World.ownsRow.kept hu h3 (intRow_out hu hrow)⟩
theorem wpList_app_out {w : World} {ops : Array Oper} {rest : List Oper} {o : Oper} {a : Act} {Q : Exit → Act → World → Prop} (hgd : o.guard = none) (s x : Operand)
    (ho : o.op = .call { callee := .builtin .append, args := #[s, x], argTypes := #[22, 22] })
    (B : Nat) (v : Value) (ls : List (List Int)) (hs : a.eval s = v) (hown : OutV w B v ls) (u : Value) (zs : List Int) (hu : Ints w B u zs)
    (g : Nat) (hx : a.eval x = .slice (some ⟨g, 0, none⟩) 1 1) (hblk : w.heap[g]? = some (.cells #[u] 35 (0, 0)))
    (hb : ls.length + 1 ≤ 4294967296) (hbase : B ≤ w.heap.size)
    (h : ∀ v' w', OutV w' B v' (ls ++ [zs]) → w.grownBy w' v.ownBlock → wpList Tryz.prog ops Q rest (a.put o.dst v') w') : wpList Tryz.prog ops Q (o :: rest) a w :=
  wpList_plain hgd fun K hK => by
    obtain ⟨v', w', hr, h2, h3⟩ := run_app_out w o.type B v ls hown g u zs hu hblk hb hbase
    unfold Oper.wp execOp
    simp only [ho, resolve, invoke, builtin, Sem.run_bind, Sem.run_pure, Result.andThen_ok, List.map_toArray, List.map_cons, List.map_nil, hs, hx, hr]
    exact hK _ _ (h v' w' h2 h3)
theorem out_ne_obj {w : World} {B E : Nat} {v : Value} {ls : List (List Int)} (h : OutV w B v ls) (hE : ∀ (c : Array Value) (t : TypeId), w.heap[E]? ≠ some (Obj.cells c t (0, 0))) : some E ≠ v.ownBlock := by
  obtain ⟨vs, hrow, _⟩ := h
  intro e
  rcases hrow.2 with ⟨rfl, _⟩ | ⟨g, cap, cur, rfl, hbg, hg, _⟩
  · cases e
  · simp [Value.ownBlock] at e
    subst e
    exact hE _ _ hg
end Go.Proofs.YtpppbkdbpbpinaaGreatDoor

/- Plain: the word that the search finds is a word over the letters, and leads where it should; the layers of the search. -/
set_option linter.unusedVariables false
namespace Go.Proofs.YtpppbkdbpbpinaaGreatDoor
/-- the word of each set that was found leads to it -/
def LedL (rows : List (List Int)) (L S : Nat) (l : List (Nat × ByteArray)) : Prop := ∀ x ∈ l, OkW L x.2.data.toList ∧ led rows S x.2.data.toList = x.1
theorem ltr_list : ∀ c, c < 16 → ∃ b, (ltr c).data.toList = [b] ∧ dig b = c := by
  intro c hc
  match c, hc with
  | 0, _ => exact ⟨48, rfl, by decide⟩
  | 1, _ => exact ⟨49, rfl, by decide⟩
  | 2, _ => exact ⟨50, rfl, by decide⟩
  | 3, _ => exact ⟨51, rfl, by decide⟩
  | 4, _ => exact ⟨52, rfl, by decide⟩
  | 5, _ => exact ⟨53, rfl, by decide⟩
  | 6, _ => exact ⟨54, rfl, by decide⟩
  | 7, _ => exact ⟨55, rfl, by decide⟩
  | 8, _ => exact ⟨56, rfl, by decide⟩
  | 9, _ => exact ⟨57, rfl, by decide⟩
  | 10, _ => exact ⟨97, rfl, by decide⟩
  | 11, _ => exact ⟨98, rfl, by decide⟩
  | 12, _ => exact ⟨99, rfl, by decide⟩
  | 13, _ => exact ⟨100, rfl, by decide⟩
  | 14, _ => exact ⟨101, rfl, by decide⟩
  | 15, _ => exact ⟨102, rfl, by decide⟩
  | n + 16, h => omega
theorem LedL.grow {rows : List (List Int)} {L S : Nat} (hL : L ≤ 16) {l : List (Nat × ByteArray)} (h : LedL rows L S l) {x : Nat × ByteArray} (hx : x ∈ l) : ∀ c, c ≤ L → LedL rows L S (growK rows x l c)
  | 0, _ => h
  | c + 1, hc => by
    have ih := LedL.grow hL h hx c (by omega)
    by_cases hm : img rows x.1 c ∈ (growK rows x l c).map (·.1)
    · rw [growK_yes hm]; exact ih
    · rw [growK_no hm]
      intro z hz
      rcases List.mem_append.1 hz with hz | hz
      · exact ih z hz
      · obtain rfl : z = (img rows x.1 c, x.2 ++ ltr c) := by simpa using hz
        obtain ⟨b, hb, hd⟩ := ltr_list c (by omega)
        obtain ⟨h1, h2⟩ := h x hx
        simp only [ByteArray.data_append, Array.toList_append, hb]
        refine ⟨fun y hy => ?_, ?_⟩
        · rcases List.mem_append.1 hy with hy | hy
          · exact h1 y hy
          · obtain rfl : y = b := by simpa using hy
            omega
        · rw [led_snoc, h2, hd]; rfl
/-- what the search gives back is some set's word -/
theorem bfs_from {rows : List (List Int)} {L S : Nat} (hL : L ≤ 16) : ∀ (f i : Nat) (l : List (Nat × ByteArray)), LedL rows L S l → (bfs rows L f i l).2 = true → OkW L (bfs rows L f i l).1.data.toList ∧ sglB (led rows S (bfs rows L f i l).1.data.toList) = true
  | 0, _, _, _, h => by cases h
  | f + 1, i, l, hl, h => by
    cases hi : l[i]? with
    | none =>
      have e : bfs rows L (f + 1) i l = (⟨#[]⟩, false) := by unfold bfs; rw [hi]
      rw [e] at h; cases h
    | some x =>
      have hx : x ∈ l := List.mem_of_getElem? hi
      cases hs : sglB x.1 with
      | true =>
        have e : bfs rows L (f + 1) i l = (x.2, true) := by unfold bfs; rw [hi]; simp [hs]
        rw [e]
        obtain ⟨h1, h2⟩ := hl x hx
        exact ⟨h1, by rw [h2]; exact hs⟩
      | false =>
        have e : bfs rows L (f + 1) i l = bfs rows L f (i + 1) (growK rows x l L) := by
          rw [show bfs rows L (f + 1) i l = (match l[i]? with | none => (⟨#[]⟩, false) | some x => if sglB x.1 then (x.2, true) else bfs rows L f (i + 1) (growK rows x l L)) from rfl, hi]
          simp [hs]
        rw [e] at h ⊢
        exact bfs_from hL f (i + 1) _ (hl.grow hL hx L (Nat.le_refl _)) h
theorem first_from {rows : List (List Int)} {L S : Nat} (hL : L ≤ 16) (h : (first rows L S).2 = true) : OkW L (first rows L S).1.data.toList ∧ sglB (led rows S (first rows L S).1.data.toList) = true :=
  bfs_from hL 65 0 _ (fun x hx => by
    obtain rfl : x = (S, ⟨#[]⟩) := by simpa using hx
    exact ⟨fun b hb => (by cases hb), rfl⟩) h
theorem bfs_size {rows : List (List Int)} {L : Nat} (hA : Aut rows L) : ∀ (f i : Nat) (l : List (Nat × ByteArray)), GoodL rows l → (bfs rows L f i l).1.size ≤ 64
  | 0, _, _, _ => by show (0 : Nat) ≤ 64; omega
  | f + 1, i, l, hl => by
    cases hi : l[i]? with
    | none =>
      have e : bfs rows L (f + 1) i l = (⟨#[]⟩, false) := by unfold bfs; rw [hi]
      rw [e]; show (0 : Nat) ≤ 64; omega
    | some x =>
      obtain ⟨hil, hx⟩ := List.getElem?_eq_some_iff.1 hi
      cases hs : sglB x.1 with
      | true =>
        have e : bfs rows L (f + 1) i l = (x.2, true) := by unfold bfs; rw [hi]; simp [hs]
        rw [e]
        have := hl.sz i hil
        have := hl.len hA
        rw [← hx]; show l[i].2.size ≤ 64; omega
      | false =>
        have e : bfs rows L (f + 1) i l = bfs rows L f (i + 1) (growK rows x l L) := by
          rw [show bfs rows L (f + 1) i l = (match l[i]? with | none => (⟨#[]⟩, false) | some x => if sglB x.1 then (x.2, true) else bfs rows L f (i + 1) (growK rows x l L)) from rfl, hi]
          simp [hs]
        rw [e, ← hx]
        exact bfs_size hA f (i + 1) _ (hl.grow hA hil L (Nat.le_refl _))
theorem first_size {rows : List (List Int)} {L S : Nat} (hA : Aut rows L) (hS : S < 2 ^ rows.length) : (first rows L S).1.size ≤ 64 := bfs_size hA 65 0 _ (GoodL.one hS)
theorem dig_ascii {b : UInt8} (h : 0 ≤ dig b) : b.toNat < 128 := by
  have key : ∀ k : Fin 256, 0 ≤ dig (UInt8.ofNat k) → k.val < 128 := by decide +kernel
  have := key ⟨b.toNat, b.toNat_lt⟩
  simp only [UInt8.ofNat_toNat] at this
  exact this h
/-! ### layers -/
/-- the new sets that the first i sets of a layer lead to -/
def nxtK (rows : List (List Int)) (L : Nat) (now seen : List Nat) : Nat → List Nat
  | 0 => []
  | i + 1 => nxtK rows L now seen i ++ snd (frK rows (now.getD i 0) (seen ++ nxtK rows L now seen i) L)
def srtN (l : List Nat) : List Nat := l.mergeSort fun x y => decide (x ≤ y)
/-- layer k, and what was seen when it was made -/
def layS (rows : List (List Int)) (L : Nat) : Nat → List Nat × List Nat
  | 0 => ([2 ^ rows.length - 1], [2 ^ rows.length - 1])
  | k + 1 => (srtN (nxtK rows L (layS rows L k).1 (layS rows L k).2 (layS rows L k).1.length), (layS rows L k).2 ++ nxtK rows L (layS rows L k).1 (layS rows L k).2 (layS rows L k).1.length)
/-- different sets -/
def Dif (n : Nat) (l : List Nat) : Prop := l.Nodup ∧ ∀ x ∈ l, x < 2 ^ n
theorem Dif.len {rows : List (List Int)} {L : Nat} (hA : Aut rows L) {l : List Nat} (h : Dif rows.length l) : l.length ≤ 64 := by
  have := nodup_len (2 ^ rows.length) l h.1 h.2
  have := hA.pow
  omega
theorem Dif.fr {rows : List (List Int)} {L S : Nat} (hA : Aut rows L) {seen : List Nat} (h : Dif rows.length seen) : ∀ c, c ≤ L → Dif rows.length (seen ++ snd (frK rows S seen c))
  | 0, _ => by simpa [snd, frK] using h
  | c + 1, hc => by
    have ih := Dif.fr (S := S) hA h c (by omega)
    by_cases hm : img rows S c ∈ seen ++ (frK rows S seen c).map (·.2)
    · rw [frK_yes hm]; exact ih
    · rw [frK_no hm, show snd (frK rows S seen c ++ [(c, img rows S c)]) = snd (frK rows S seen c) ++ [img rows S c] by simp [snd], ← List.append_assoc]
      refine ⟨?_, fun x hx => ?_⟩
      · rw [List.nodup_append]
        refine ⟨ih.1, by simp, fun a ha b hb => ?_⟩
        obtain rfl : b = img rows S c := by simpa using hb
        rintro rfl
        exact hm ha
      · rcases List.mem_append.1 hx with hx | hx
        · exact ih.2 x hx
        · obtain rfl : x = img rows S c := by simpa using hx
          exact hA.img_lt (by omega) _
theorem Dif.nxt {rows : List (List Int)} {L : Nat} (hA : Aut rows L) {seen : List Nat} (now : List Nat) (h : Dif rows.length seen) : ∀ i, Dif rows.length (seen ++ nxtK rows L now seen i)
  | 0 => by simpa [nxtK] using h
  | i + 1 => by
    have := (Dif.nxt hA now h i).fr (S := now.getD i 0) hA L (Nat.le_refl _)
    rw [List.append_assoc] at this
    exact this
theorem srtN_mem {l : List Nat} {x : Nat} : x ∈ srtN l ↔ x ∈ l := (List.mergeSort_perm _ _).mem_iff
theorem srtN_len (l : List Nat) : (srtN l).length = l.length := List.length_mergeSort ..
theorem layS_dif {rows : List (List Int)} {L : Nat} (hA : Aut rows L) : ∀ k, Dif rows.length (layS rows L k).2 ∧ (∀ x ∈ (layS rows L k).1, x < 2 ^ rows.length) ∧ (layS rows L k).1.length ≤ 64
  | 0 => ⟨⟨by simp [layS], fun x hx => by obtain rfl : x = 2 ^ rows.length - 1 := by simpa [layS] using hx
                                          exact full_lt _⟩, fun x hx => by obtain rfl : x = 2 ^ rows.length - 1 := by simpa [layS] using hx
                                                                           exact full_lt _, by simp [layS]⟩
  | k + 1 => by
    obtain ⟨h1, h2, h3⟩ := layS_dif hA k
    have hd := h1.nxt hA (layS rows L k).1 (layS rows L k).1.length
    refine ⟨hd, fun x hx => hd.2 x (List.mem_append.2 (.inr (srtN_mem.1 hx))), ?_⟩
    have := hd.len hA
    rw [List.length_append] at this
    show (srtN _).length ≤ 64
    rw [srtN_len]
    omega
/-- the first k layers -/
def lays (rows : List (List Int)) (L k : Nat) : List (List Nat) := (List.range k).map fun j => (layS rows L j).1
theorem lays_succ (rows : List (List Int)) (L k : Nat) : lays rows L (k + 1) = lays rows L k ++ [(layS rows L k).1] := by simp [lays, List.range_succ]
theorem lays_len (rows : List (List Int)) (L k : Nat) : (lays rows L k).length = k := by simp [lays]
def ints (l : List Nat) : List Int := l.map (fun x : Nat => (x : Int))
theorem ints_len (l : List Nat) : (ints l).length = l.length := by simp [ints]
theorem srt_ints (l : List Nat) : (ints l).mergeSort (fun x y => decide (x ≤ y)) = ints (srtN l) := by
  unfold ints srtN
  rw [List.map_mergeSort]
  intro a _ b _
  simp
theorem ints_append (a b : List Nat) : ints (a ++ b) = ints a ++ ints b := by simp [ints]
end Go.Proofs.YtpppbkdbpbpinaaGreatDoor

/- Shortest of both sides. -/
set_option linter.unusedVariables false
namespace Go.Proofs.YtpppbkdbpbpinaaGreatDoor
open Go.RowKit Go.Maps
def fullS (rows : List (List Int)) : Nat := 2 ^ rows.length - 1
/-- the first reset word -/
def fst44 (rows : List (List Int)) (L : Int) : ByteArray × Bool := first rows L.toNat (fullS rows)
def shrV (L : Int) (rows : List (List Int)) : Value := if chkA L rows = 0 then .tuple #[.string (fst44 rows L).1, .bool (fst44 rows L).2, .int .i64 0] else .tuple #[.string ⟨#[]⟩, .bool false, .int .i64 1]
theorem shrV_ok {L : Nat} {rows : List (List Int)} (h : chkA L rows = 0) : shrV L rows = .tuple #[.string (first rows L (fullS rows)).1, .bool (first rows L (fullS rows)).2, .int .i64 0] := by unfold shrV fst44; rw [if_pos h]; rfl
theorem shrV_bad {L : Int} {rows : List (List Int)} (h : chkA L rows ≠ 0) : shrV L rows = .tuple #[.string ⟨#[]⟩, .bool false, .int .i64 1] := by unfold shrV; rw [if_neg h]
set_option maxRecDepth 100000 in
set_option maxHeartbeats 4000000 in
theorem zShortest_any (L : Int) (rows : List (List Int)) (A : Option Addr) (cc : Nat) (w : World) (hg : Fit L rows) (hR : RowD w A rows) (hT : TabZ w) (hb : rows.length ≤ 9223372036854775807) :
    Calls Tryz.prog 23 #[.agg #[.int .i64 L, .slice A rows.length cc]] w fun e w' => e = .returned (shrV L rows) ∧ Below w.heap.size w w' := by
  have hB0 : Below w.heap.size w (w.alloc (Obj.cells #[.int .i64 L, .slice A rows.length cc] 24)) := (Below.refl _ w).alloc (Nat.le_refl _) _
  have HR := hide (hR.below hB0)
  have HT := hide (hT.below hB0)
  obtain ⟨B, hBB⟩ : ∃ B, w.heap.size = B := ⟨_, rfl⟩
  have hbx : BoxA (w.alloc (Obj.cells #[.int .i64 L, .slice A rows.length cc] 24)) B L A rows.length cc := by rw [← hBB]; exact heap_alloc_new w _
  have k0 := hbx.c0
  have k1 := hbx.c1
  have hsz : (w.alloc (Obj.cells #[.int .i64 L, .slice A rows.length cc] 24)).heap.size = B + 1 := by rw [← hBB]; simp
  have HC := hide (fun W (h : RowD W A rows) => zCheck_any L rows A cc W h hb)
  by_cases h0 : chkA L rows = 0
  · obtain ⟨l, rfl, hA⟩ := aut_fit hg h0
    rw [shrV_ok h0]
    rw [h0] at HC
    have hn := hA.n6
    have HS := hide (fun W (h : RowD W A rows) (hT : TabZ W) => zsearch_any rows l (fullS rows) A cc W hA (full_lt _) h hT)
    have HF := hide (fun W => zall_any rows l A cc W (by omega))
    obtain ⟨F, hFF⟩ : ∃ F, 2 ^ rows.length - 1 = F := ⟨_, rfl⟩
    have hfu : fullS rows = F := hFF
    rw [hfu] at HS ⊢
    rw [hFF] at HF
    obtain ⟨R, hRR⟩ : ∃ R, first rows l F = R := ⟨_, rfl⟩
    rw [hRR] at HS ⊢
    unfold firstR at HS
    clear hR hT hg h0 hA hFF hfu hRR
    go_enter Tryz.func23, Tryz.ntmps23
    go_wp2_with fail
    generalize w.alloc (Obj.cells #[.int .i64 (l : Int), .slice A rows.length cc] 24) = W1 at hB0 HR HT hbx k0 k1 hsz ⊢
    have lB : B < W1.heap.size := by omega
    go_wp2_with (go_at_call 49; refine (HC.out W1 HR.out).mono ?_; rintro e w2 ⟨rfl, hB2⟩)
    have hAcc : Below W1.heap.size W1 w2.drew := hB2.drew
    have m0 := (hAcc.cell (p := ⟨B, 0, none⟩) lB).trans k0
    have m1 := (hAcc.cell (p := ⟨B, 1, none⟩) lB).trans k1
    go_region_held3 (fun W => W.cell? ⟨B, 0, none⟩ = some (.int .i64 l) ∧ W.cell? ⟨B, 1, none⟩ = some (.slice A rows.length cc))
      (first | with_reducible exact ⟨m0, m1⟩)
      (first
        | (go_at_call 51; refine (HF.out _).mono ?_; rintro e w3 ⟨rfl, hB3⟩; replace hAcc := hAcc.trans (hB3.mono hAcc.size); replace m0 := (hAcc.cell (p := ⟨B, 0, none⟩) lB).trans k0; replace m1 := (hAcc.cell (p := ⟨B, 1, none⟩) lB).trans k1)
        | (go_at_call 50; refine (HS.out _ (HR.out.below hAcc) (HT.out.below hAcc)).mono ?_; rintro e w4 ⟨rfl, hB4⟩; replace hAcc := hAcc.trans (hB4.mono hAcc.size); replace m0 := (hAcc.cell (p := ⟨B, 0, none⟩) lB).trans k0; replace m1 := (hAcc.cell (p := ⟨B, 1, none⟩) lB).trans k1))
    all_goals (
      go_wp2
      go_ret3
      exact ⟨rfl, hBB ▸ hB0.trans (hAcc.mono (by omega))⟩)
  · have hne : (chkA L rows != 0) = true := by rw [bne_iff_ne]; exact h0
    rw [shrV_bad h0]
    clear hR hT hbx
    go_enter Tryz.func23, Tryz.ntmps23
    go_wp2_with fail
    generalize w.alloc (Obj.cells #[.int .i64 L, .slice A rows.length cc] 24) = W1 at hB0 HR HT k0 k1 hsz ⊢
    go_wp2_with (go_at_call 49; refine (HC.out W1 HR.out).mono ?_; rintro e w2 ⟨rfl, hB2⟩)
    go_ret3
    exact ⟨rfl, hBB ▸ hB0.trans (hB2.mono (by omega))⟩
set_option maxRecDepth 100000 in
set_option maxHeartbeats 4000000 in
theorem zrShortest_any (L : Int) (rows : List (List Int)) (A : Option Addr) (cc : Nat) (w : World) (hg : Fit L rows) (hR : RowD w A rows) (hT : TabZ w) (hb : rows.length ≤ 9223372036854775807) :
    Calls Tryz.prog 25 #[.agg #[.int .i64 L, .slice A rows.length cc]] w fun e w' => e = .returned (shrV L rows) ∧ Below w.heap.size w w' := by
  have hB0 : Below w.heap.size w (w.alloc (Obj.cells #[.int .i64 L, .slice A rows.length cc] 24)) := (Below.refl _ w).alloc (Nat.le_refl _) _
  have HR := hide (hR.below hB0)
  have HT := hide (hT.below hB0)
  obtain ⟨B, hBB⟩ : ∃ B, w.heap.size = B := ⟨_, rfl⟩
  have hbx : BoxA (w.alloc (Obj.cells #[.int .i64 L, .slice A rows.length cc] 24)) B L A rows.length cc := by rw [← hBB]; exact heap_alloc_new w _
  have k0 := hbx.c0
  have k1 := hbx.c1
  have hsz : (w.alloc (Obj.cells #[.int .i64 L, .slice A rows.length cc] 24)).heap.size = B + 1 := by rw [← hBB]; simp
  have HC := hide (fun W (h : RowD W A rows) => zrCheck_any L rows A cc W h hb)
  by_cases h0 : chkA L rows = 0
  · obtain ⟨l, rfl, hA⟩ := aut_fit hg h0
    rw [shrV_ok h0]
    rw [h0] at HC
    have hn := hA.n6
    have HS := hide (fun W (h : RowD W A rows) (hT : TabZ W) => zfirst_any rows l (fullS rows) A cc W hA (full_lt _) h)
    have HF := hide (fun W => zfull_any rows l A cc W (by omega))
    obtain ⟨F, hFF⟩ : ∃ F, 2 ^ rows.length - 1 = F := ⟨_, rfl⟩
    have hfu : fullS rows = F := hFF
    rw [hfu] at HS ⊢
    rw [hFF] at HF
    obtain ⟨R, hRR⟩ : ∃ R, first rows l F = R := ⟨_, rfl⟩
    rw [hRR] at HS ⊢
    unfold firstR at HS
    clear hR hT hg h0 hA hFF hfu hRR
    go_enter Tryz.func25, Tryz.ntmps25
    go_wp2_with fail
    generalize w.alloc (Obj.cells #[.int .i64 (l : Int), .slice A rows.length cc] 24) = W1 at hB0 HR HT hbx k0 k1 hsz ⊢
    have lB : B < W1.heap.size := by omega
    go_wp2_with (go_at_call 55; refine (HC.out W1 HR.out).mono ?_; rintro e w2 ⟨rfl, hB2⟩)
    have hAcc : Below W1.heap.size W1 w2.drew := hB2.drew
    have m0 := (hAcc.cell (p := ⟨B, 0, none⟩) lB).trans k0
    have m1 := (hAcc.cell (p := ⟨B, 1, none⟩) lB).trans k1
    go_region_held3 (fun W => W.cell? ⟨B, 0, none⟩ = some (.int .i64 l) ∧ W.cell? ⟨B, 1, none⟩ = some (.slice A rows.length cc))
      (first | with_reducible exact ⟨m0, m1⟩)
      (first
        | (go_at_call 57; refine (HF.out _).mono ?_; rintro e w3 ⟨rfl, hB3⟩; replace hAcc := hAcc.trans (hB3.mono hAcc.size); replace m0 := (hAcc.cell (p := ⟨B, 0, none⟩) lB).trans k0; replace m1 := (hAcc.cell (p := ⟨B, 1, none⟩) lB).trans k1)
        | (go_at_call 56; refine (HS.out _ (HR.out.below hAcc) (HT.out.below hAcc)).mono ?_; rintro e w4 ⟨rfl, hB4⟩; replace hAcc := hAcc.trans (hB4.mono hAcc.size); replace m0 := (hAcc.cell (p := ⟨B, 0, none⟩) lB).trans k0; replace m1 := (hAcc.cell (p := ⟨B, 1, none⟩) lB).trans k1))
    all_goals (
      go_wp2
      go_ret3
      exact ⟨rfl, hBB ▸ hB0.trans (hAcc.mono (by omega))⟩)
  · have hne : (chkA L rows != 0) = true := by rw [bne_iff_ne]; exact h0
    rw [shrV_bad h0]
    clear hR hT hbx
    go_enter Tryz.func25, Tryz.ntmps25
    go_wp2_with fail
    generalize w.alloc (Obj.cells #[.int .i64 L, .slice A rows.length cc] 24) = W1 at hB0 HR HT k0 k1 hsz ⊢
    go_wp2_with (go_at_call 55; refine (HC.out W1 HR.out).mono ?_; rintro e w2 ⟨rfl, hB2⟩)
    go_ret3
    exact ⟨rfl, hBB ▸ hB0.trans (hB2.mono (by omega))⟩
end Go.Proofs.YtpppbkdbpbpinaaGreatDoor
