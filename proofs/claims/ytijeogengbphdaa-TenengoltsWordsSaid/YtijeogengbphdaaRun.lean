/- runs.split, Split, tenengolts.Runs: how many runs. -/
import Derived.Test.YtijeogengbphdaaGrp
import Derived.Laws.IdiomStrings
set_option linter.unusedVariables false
namespace Go.Proofs.Ytijeogengbphdaa
open Go.RowKit
theorem infoRun : (Try.prog.info? 109).map (fun i => (i.zero, i.size, i.bytes)) = some (some (.agg #[.int .i64 0, .int .i64 0]), 2, 16) := by kernel_rfl
/-- v is a list of n runs in a row of the call's own -/
def Rns (w : World) (B : Nat) (v : Value) (n : Nat) : Prop := ∃ xs, w.ownsRow B 109 2 v n xs
theorem Rns.alloc {w : World} {B : Nat} {v : Value} {n : Nat} (h : Rns w B v n) (o : Obj) : Rns (w.alloc o) B v n := by obtain ⟨xs, h⟩ := h; exact ⟨xs, World.ownsRow.alloc h o⟩
theorem Rns.lt {w : World} {B : Nat} {v : Value} {n : Nat} (h : Rns w B v n) : ∀ k, v.ownBlock = some k → B ≤ k ∧ k < w.heap.size := by obtain ⟨xs, h⟩ := h; exact World.ownsRow.lt h
theorem Rns.mono {w : World} {B B' : Nat} {v : Value} {n : Nat} (h : Rns w B v n) (hb : B' ≤ B) : Rns w B' v n := by
  obtain ⟨xs, h⟩ := h
  refine ⟨xs, h.1, ?_⟩
  rcases h.2 with h' | ⟨g, cap, cur, h1, h2, h3⟩
  · exact .inl h'
  · exact .inr ⟨g, cap, cur, h1, Nat.le_trans hb h2, h3⟩
theorem Rns.shape {w : World} {B : Nat} {v : Value} {n : Nat} (h : Rns w B v n) : ∃ ad cap, v = .slice ad n cap := by
  obtain ⟨xs, h⟩ := h
  rcases h.2 with ⟨hv, hn⟩ | ⟨g, cap, cur, hv, _⟩
  · exact ⟨none, 0, by rw [hv, hn]⟩
  · exact ⟨_, cap, hv⟩
theorem wpList_app_run {w : World} {ops : Array Oper} {rest : List Oper} {o : Oper} {a : Act} {Q : Exit → Act → World → Prop} (hgd : o.guard = none) (s x : Operand)
    (ho : o.op = .call { callee := .builtin .append, args := #[s, x], argTypes := #[66, 66] })
    (B : Nat) (v : Value) (n : Nat) (hs : a.eval s = v) (hown : Rns w B v n)
    (g : Nat) (y z : Int) (hx : a.eval x = .slice (some ⟨g, 0, none⟩) 1 1) (hblk : w.heap[g]? = some (.cells #[.int .i64 y, .int .i64 z] 109 (0, 0)))
    (hb : n ≤ 1000000) (hbase : B ≤ w.heap.size)
    (h : ∀ v' w', Rns w' B v' (n + 1) → w.grownBy w' v.ownBlock → wpList Try.prog ops Q rest (a.put o.dst v') w') : wpList Try.prog ops Q (o :: rest) a w := by
  obtain ⟨i0, hi, hz0, hz1, hz2⟩ := info_parts infoRun
  obtain ⟨xs, hown⟩ := hown
  refine wpList_append_own w hgd s x 66 ho B 109 i0 _ 2 16 Try.underlying66 hi hz0 hz1 hz2 rfl (by decide) v n xs hs hown ⟨g, 0, none⟩ 1 1 [.int .i64 y, .int .i64 z] hx rfl (by
    intro j u hj
    have : (⟨g, 0, none⟩ : Addr).add j = ⟨g, j, none⟩ := by unfold Addr.add; split <;> simp_all
    rw [this, cell_of_row w g j _ 109 (0, 0) hblk]
    simpa using hj) (by
    intro u hu
    simp at hu
    rcases hu with rfl | rfl <;> rfl) (by unfold maxLen; omega) (by omega) hbase fun v' w' h2 h3 _ => h v' w' ⟨_, h2⟩ h3
theorem Pts.below {w w' : World} {B : Nat} {v : Value} {vs : List Value} (h : Pts w B v vs) (hB : Below w.heap.size w w') : Pts w' B v vs := by
  unfold Pts World.ownsRow at h ⊢
  refine ⟨h.1, ?_⟩
  rcases h.2 with h' | ⟨g, cap, cur, h1, h2, h3, h4⟩
  · exact .inl h'
  · refine .inr ⟨g, cap, cur, h1, h2, (hB.block g ?_).trans h3, h4⟩
    rcases Nat.lt_or_ge g w.heap.size with hlt | hge
    · exact hlt
    · rw [Array.getElem?_eq_none hge] at h3; cases h3
theorem Pts.form {w : World} {B : Nat} {v : Value} {vs : List Value} (h : Pts w B v vs) : ∃ A c, v = .slice A vs.length c ∧ (0 < vs.length → ∃ g, A = some ⟨g, 0, none⟩ ∧ g < w.heap.size ∧ ∀ k (hk : k < vs.length), w.cell? ⟨g, k, none⟩ = some vs[k]) := by
  rcases h.2 with ⟨hv, hn⟩ | ⟨g, cap, cur, hv, hb, hh, hc, hm, _⟩
  · exact ⟨none, 0, by rw [hv, hn], fun h0 => by omega⟩
  · refine ⟨_, cap, hv, fun _ => ⟨g, rfl, ?_, fun k hk => ?_⟩⟩
    · rcases Nat.lt_or_ge g w.heap.size with hlt | hge
      · exact hlt
      · rw [Array.getElem?_eq_none hge] at hh; cases hh
    · have h' := h
      unfold Pts at h'
      rw [hv] at h'
      have := World.ownsRow.cellAt h' k (by omega)
      rw [this]; simp [hk]
theorem conv_bytes (s : ByteArray) (hs : s.size ≤ 70000) (w : World) : ∃ c w1, (convert 9 65 (.string s)).run Try.prog w = .ok (.slice (some ⟨w.heap.size, 0, none⟩) s.data.toList.length c) w1 ∧ s.data.toList.length ≤ c ∧ c ≤ 9223372036854775807 ∧ Below w.heap.size w w1 ∧ w.heap.size < w1.heap.size ∧
    ∀ k (hk : k < s.data.toList.length), w1.cell? ⟨w.heap.size, k, none⟩ = some (.int .u8 ((s.data.toList[k]).toNat : Int)) := by
  have e : s.data.toList.length = s.size := by simp
  have hrun := run_bytes_of_string w 9 65 5 s Try.underlying9 Try.underlying65 Try.underlying5
  obtain ⟨C, hC⟩ : ∃ C, C = bytesRow s (grownCap w s.size 0 5) := ⟨_, rfl⟩
  rw [← hC] at hrun
  refine ⟨grownCap w s.size 0 5, w.drew.alloc (.cells C 5 (C.size, C.size + 1)), ?_, ?_, ?_, (Below.refl w.heap.size w).drew.alloc (Nat.le_refl _) _, by simp, fun k hk => ?_⟩
  · rw [e]; exact hrun
  · rw [e]; exact grownCap_ge _ _ _ _
  · have := grownCap_le_maxLen w s.size 0 5 (by unfold maxLen; omega)
    unfold maxLen at this
    omega
  · rw [show (⟨w.heap.size, k, none⟩ : Addr) = ⟨w.drew.heap.size, k, none⟩ from rfl, cell_of_row _ _ _ _ _ _ (heap_alloc_new w.drew _)]
    have hk' : k < s.data.size := by simpa using hk
    rw [hC]
    unfold bytesRow
    rw [Array.getElem?_append_left (by simpa using hk')]
    simp
    exact ⟨_, Array.getElem?_eq_getElem hk', rfl⟩
set_option maxRecDepth 100000 in
set_option maxHeartbeats 4000000 in
theorem split_any (s : ByteArray) (hs : s.size ≤ 70000) (w : World) :
    Calls Try.prog 74 #[.string s] w fun e w' => ∃ v, e = .returned v ∧ Rns w' w.heap.size v (cntL s.data.toList s.size) ∧ Below w.heap.size w w' := by
  obtain ⟨B, hB⟩ : ∃ B, w.heap.size = B := ⟨_, rfl⟩
  obtain ⟨c, w1, hcv, hlc, hcm, hB1, hsz1, hcell⟩ := conv_bytes s hs w
  have hll : s.data.toList.length = s.size := by simp
  obtain ⟨l, hl⟩ : ∃ l, l = s.data.toList := ⟨_, rfl⟩
  rw [← hl] at hcv hlc hcell hll
  rw [← hl, ← hll]
  have HG := hide (grouped_any l (some ⟨w.heap.size, 0, none⟩) c (by omega) hlc hcm w1 (fun _ => ⟨_, rfl, hsz1, hcell⟩))
  have HCE := hide hcell
  have hl7 : l.length ≤ 70000 := by omega
  rw [hB] at HG HCE hcv hB1 hsz1
  clear hl hll hcell hlc hcm
  go_enter Try.func74, Try.ntmps74
  go_wp2_with fail
  refine HG.out.mono ?_
  rintro e w2 ⟨pv, vs, rfl, hpts, hok, hcnt, hB2⟩
  obtain ⟨A, c2, rfl, hA⟩ := hpts.form
  have HPT := hide hA
  have HOK := hide hok
  have HCNT := hide hcnt
  have hvl : vs.length ≤ 70000 := by
    have : cntL l l.length ≤ l.length := by unfold cntL; have := List.length_filter_le (runL l) (List.range l.length); rwa [List.length_range] at this
    omega
  have hBs1 : B ≤ w1.heap.size := by omega
  have hB12 := hB1.trans (hB2.mono hBs1)
  obtain ⟨B2, hB2e⟩ : ∃ B2, w2.heap.size = B2 := ⟨_, rfl⟩
  have hBB2 : B ≤ B2 := by have := hB12.size; omega
  have hBlt : B < B2 := by have := hB2.size; omega
  have HCE2 := hide (show ∀ k (hk : k < l.length), w2.cell? ⟨B, k, none⟩ = some (.int .u8 ((l[k]).toNat : Int)) from fun k hk => (hB2.cell (p := ⟨B, k, none⟩) (by omega)).trans (HCE.out k hk))
  have hst : Rns w2 B2 (.slice none 0 0) 0 := ⟨[], World.ownsRow_nil _ _ _ _⟩
  have hB0 := Below.refl B2 w2
  clear hpts hA hok hcnt HG hcv HCE hB1 hB2
  go_wp2
  go_loopw [3, 10] (fun v iv wr => ∃ (v0 : Value) (i : Nat), v0 = v ∧ iv = .int .i64 i ∧ i ≤ vs.length ∧ Rns wr B2 v0 i ∧ Below B2 w2 wr) (fun _ iv _ => vs.length - (intOf iv).toNat)
  case atStart => exact ⟨_, 0, rfl, rfl, Nat.zero_le _, hst, hB0⟩
  case round =>
    obtain ⟨v0, i, rfl, rfl, hi, hrow, hBw⟩ := hrel
    clear hst hB0
    by_cases hlt : i < vs.length
    · obtain ⟨g, rfl, hg, hcell⟩ := HPT.out (by omega)
      obtain ⟨g', j, m, c', e1, e2, hj, hm0, hm7⟩ := HOK.out vs[i] (List.getElem_mem hlt)
      obtain rfl : B = g' := by cases e1; rfl
      have c1 := (hBw.cell (p := ⟨g, i, none⟩) (by show g < B2; omega)).trans (hcell i hlt)
      rw [e2] at c1
      have c2 := (hBw.cell (p := ⟨B, j, none⟩) hBlt).trans (HCE2.out j hj)
      obtain ⟨b, hb⟩ : ∃ b, b = l[j] := ⟨_, rfl⟩
      rw [← hb] at c2
      have hi0 : (0 : Int) ≤ (i : Int) := by omega
      have hi1 : (i : Int) < (vs.length : Int) := by omega
      have hm1 : (0 : Int) < (m : Int) := by omega
      have HR := hide hrow
      have hBs : B2 ≤ wr.heap.size := by have := hBw.size; omega
      clear hcell e1 e2 hb hrow
      go_wp2_with fail
      refine (strings_IndexByte _ _ _).mono ?_
      rintro e w3 ⟨rfl, rfl⟩
      generalize Lib.indexByte _ _ = z
      have hrw := HR.out.alloc (Obj.cells #[Value.int .i64 z, Value.int .i64 (m : Int)] 109)
      have hBx := hBw.alloc hBs (Obj.cells #[Value.int .i64 z, Value.int .i64 (m : Int)] 109)
      go_wp2_with (at_builtin; refine wpList_app_run rfl _ _ rfl B2 v0 i rfl hrw wr.heap.size z m rfl (heap_alloc_new wr _) (by omega) (by have := hBx.size; omega) ?_; intro v5 w5 hown5 hg5; have hBy := hBx.grown hg5 (by have := hBx.size; omega) (fun _ hk => (hrw.lt _ hk).1))
      clear hrw hBx hg5
      go_roundw
      case rel => exact ⟨v5, i + 1, rfl, by go_num, hlt, hown5, hBy⟩
      case measure => simp [intOf]; omega
    · obtain rfl : i = vs.length := by omega
      go_wp2
      go_ret
      refine ⟨v0, rfl, ?_, ?_⟩
      · rw [HCNT.out] at hrow
        first | exact hrow.mono hBB2 | (rw [hB]; exact hrow.mono hBB2)
      · have := hB12.trans (hBw.mono hBB2)
        first | exact this | (rw [hB]; exact this)
set_option maxRecDepth 100000 in
theorem Split_any (s : ByteArray) (hs : s.size ≤ 70000) (hc : chk 16 s.data.toList = 0) (w : World) :
    Calls Try.prog 49 #[.string s] w fun e w' => ∃ v, e = .returned (.tuple #[v, .int .i64 0]) ∧ Rns w' w.heap.size v (cntL s.data.toList s.size) ∧ Below w.heap.size w w' := by
  have HC := hide hc
  have HS := hide (fun W => split_any s hs W)
  clear hc
  go_enter Try.func49, Try.ntmps49
  go_wp2_with (go_at_call 40; refine (wcheck_any _ _ _).mono ?_; rintro e w1 ⟨rfl, n1, rfl⟩; rw [HC.out])
  refine (HS.out _).mono ?_
  rintro e w2 ⟨v, rfl, hr, hB⟩
  go_wp2
  go_ret2
  exact ⟨v, rfl, hr, (belowN (Below.refl w.heap.size w) n1).trans hB⟩
set_option maxRecDepth 100000 in
theorem runs_any (s : ByteArray) (hs : s.size ≤ 70000) (hc : chk 2 s.data.toList = 0) (hc6 : chk 16 s.data.toList = 0) (w : World) :
    Calls Try.prog 23 #[.string s] w fun e w' => e = .returned (.tuple #[.int .i64 ((cntL s.data.toList s.size : Nat) : Int), .int .i64 0]) ∧ Below w.heap.size w w' := by
  have HC := hide hc
  have HS := hide (fun W => Split_any s hs hc6 W)
  clear hc hc6
  go_enter Try.func23, Try.ntmps23
  go_wp2_with (go_at_call 40; refine (wcheck_any _ _ _).mono ?_; rintro e w1 ⟨rfl, n1, rfl⟩; rw [HC.out])
  refine (HS.out _).mono ?_
  rintro e w2 ⟨v, rfl, hr, hB⟩
  obtain ⟨ad, cap, rfl⟩ := hr.shape
  clear hr
  go_wp2
  go_ret2
  exact ⟨rfl, (belowN (Below.refl w.heap.size w) n1).trans hB⟩
end Go.Proofs.Ytijeogengbphdaa
