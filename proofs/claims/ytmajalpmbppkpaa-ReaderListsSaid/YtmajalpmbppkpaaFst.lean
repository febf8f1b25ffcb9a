/- grooveref58.first: its contract. -/
import Derived.Test.YtmajalpmbppkpaaCmpI
import Derived.Laws.ResultCell
import Derived.Laws.Rows
set_option linter.unusedVariables false
namespace Go.Proofs.Ytmajalpmbppkpaa
open Go.RowKit
/-- the first good sector with that number -/
def fstOf (xs : List Sct) (n : Int) : Option Sct := xs.find? fun x => decide (x.st = 1) && decide (x.ix = n)
/-- the value of a sector: its data lie in the world -/
def SctV (w : World) (v : Value) (x : Sct) : Prop := ∃ D c, v = .agg #[.int .i64 x.ix, .int .i64 x.pos, .int .i64 x.st, .slice D x.dt.length c] ∧ RowI w D x.dt
theorem fst_at {xs : List Sct} {n : Int} {k : Nat} (hk : k < xs.length) (h0 : ∀ j (hj : j < xs.length), j < k → ¬ (xs[j].st = 1 ∧ xs[j].ix = n)) (h : xs[k].st = 1 ∧ xs[k].ix = n) : fstOf xs n = some xs[k] := by
  unfold fstOf
  rw [List.find?_eq_some_iff_getElem]
  refine ⟨by simp [h.1, h.2], k, hk, rfl, fun j hj => ?_⟩
  have := h0 j (by omega) hj
  simp
  exact Classical.not_and_iff_not_or_not.1 this
theorem fst_none {xs : List Sct} {n : Int} (h0 : ∀ j (hj : j < xs.length), ¬ (xs[j].st = 1 ∧ xs[j].ix = n)) : fstOf xs n = none := by
  unfold fstOf
  rw [List.find?_eq_none]
  intro x hx
  obtain ⟨j, hj, rfl⟩ := List.getElem_of_mem hx
  have := h0 j hj
  simp
  intro h1 h2
  exact this ⟨h1, h2⟩
theorem sectorSize : (Try.prog.info? 71).map (·.size) = some 4 := by kernel_rfl
theorem ret_sector {fn : Func} {p u : Tmp} (h : fn.results = #[.cell p 71, .tmp u]) (tmps : Array Value) (w : World) (g : Nat) (cs : Array Value) (hp : tmps.getD p undef = .pointer (some ⟨g, 0, none⟩)) (hg : w.heap[g]? = some (.cells cs 71 (0, 0))) (hcs : cs.size = 4) :
    (results fn tmps).run Try.prog w = .ok (.tuple #[.agg cs, tmps.getD u undef]) w := by
  rw [results_cell_tmp h, hp]
  simp [asAddr, Result.andThen, run_loadVar_row w g 71 71 cs (0, 0) _ hg Try.underlying71 rfl (by rw [hcs]; exact sectorSize)]
set_option maxRecDepth 100000 in
set_option maxHeartbeats 2000000 in
theorem first58_any (xs : List Sct) (A : Option Addr) (c : Nat) (n : Int) (w : World) (hR : RowC w A xs) (hb : xs.length ≤ 12) :
    Calls Try.prog 56 #[.slice A xs.length c, .int .i64 n] w fun e w' => ∃ sv, e = .returned (.tuple #[sv, .bool (fstOf xs n).isSome]) ∧ (∀ x, fstOf xs n = some x → SctV w' sv x) ∧ (fstOf xs n = none → ∃ c2, sv = .agg #[.int .i64 0, .int .i64 0, .int .i64 0, .slice none 0 c2]) ∧ Below w.heap.size w w' := by
  have HR := hide hR
  clear hR
  obtain ⟨B, hB⟩ : ∃ B, w.heap.size = B := ⟨_, rfl⟩
  go_enter Try.func56, Try.ntmps56
  go_wp2
  have hRW := HR.out.below ((Below.refl w.heap.size w).alloc (Nat.le_refl _) (Obj.cells #[Value.int .i64 0, Value.int .i64 0, Value.int .i64 0, Value.slice none 0 0] 71))
  have HRW := hide hRW
  have hBW : Below B w (w.alloc (Obj.cells #[Value.int .i64 0, Value.int .i64 0, Value.int .i64 0, Value.slice none 0 0] 71)) := (Below.refl B w).alloc (by omega) _
  clear hRW
  go_loopw [6] (fun iv wr => ∃ k : Nat, iv = .int .i64 k ∧ k ≤ xs.length ∧ Hid (∀ j (hj : j < xs.length), j < k → ¬ (xs[j].st = 1 ∧ xs[j].ix = n)) ∧ wr = w.alloc (Obj.cells #[Value.int .i64 0, Value.int .i64 0, Value.int .i64 0, Value.slice none 0 0] 71)) (fun iv _ => xs.length - (intOf iv).toNat)
  case atStart => exact ⟨0, rfl, Nat.zero_le _, hide fun j _ h => absurd h (by omega), rfl⟩
  case round =>
    obtain ⟨k, rfl, hk, hK, rfl⟩ := hrel
    by_cases hlt : k < xs.length
    · obtain ⟨b0, o0, rfl, ha, hcell⟩ := HR.out (by omega)
      obtain ⟨c0', c1', c2', Dd, cd, c3', hd⟩ := hcell k hlt
      have ecell : ∀ m, (w.alloc (Obj.cells #[Value.int .i64 0, Value.int .i64 0, Value.int .i64 0, Value.slice none 0 0] 71)).cell? ⟨b0, m, none⟩ = w.cell? ⟨b0, m, none⟩ := fun m => ((Below.refl w.heap.size w).alloc (Nat.le_refl _) (Obj.cells #[Value.int .i64 0, Value.int .i64 0, Value.int .i64 0, Value.slice none 0 0] 71)).cell (p := ⟨b0, m, none⟩) ha
      have c0 := (ecell _).trans c0'
      have c1 := (ecell _).trans c1'
      have c2 := (ecell _).trans c2'
      have c3 := (ecell _).trans c3'
      clear ecell c0' c1' c2' c3'
      have hk0 : (0 : Int) ≤ (k : Int) := by omega
      have hk1 : (k : Int) < (xs.length : Int) := by omega
      obtain ⟨x, hx⟩ : ∃ x, x = xs[k] := ⟨_, rfl⟩
      rw [← hx] at c0 c1 c2 c3 hd
      have HX := hide hx
      have HD := hide hd
      obtain ⟨x0, x1, x2, x3⟩ := x
      simp only [] at c0 c1 c2 c3
      clear hcell hx hd
      by_cases h1 : x2 = 1
      · have hb1 : (x2 == 1) = true := by simpa using h1
        by_cases h2 : x0 = n
        · have hb2 : (x0 == n) = true := by simpa using h2
          have HF := hide (fst_at hlt hK.out (by rw [← HX.out]; exact ⟨h1, h2⟩))
          clear h1 h2
          go_wp2
          refine bodyPost_ret (ret_sector rfl _ _ B _ rfl (by rw [← hB]; exact heap_alloc_new w _) rfl) rfl ?_
          refine ⟨_, (by rw [HF.out]; rfl), (fun x hx => ?_), (fun h => (by rw [HF.out] at h; cases h)), ?_⟩
          · rw [HF.out] at hx
            cases hx
            rw [← HX.out]
            have hB3 : Below w.heap.size w (w.alloc (Obj.cells #[Value.int .i64 x0, Value.int .i64 x1, Value.int .i64 x2, Value.slice Dd x3.length cd] 71)) := (Below.refl w.heap.size w).alloc (Nat.le_refl _) _
            exact ⟨Dd, cd, rfl, by have := HD.out.below hB3; exact this⟩
          · have := (Below.refl w.heap.size w).alloc (Nat.le_refl _) (Obj.cells #[Value.int .i64 x0, Value.int .i64 x1, Value.int .i64 x2, Value.slice Dd x3.length cd] 71)
            first | exact this | (rw [hB] at this; exact this)
        · have hb2 : (x0 == n) = false := by simpa using h2
          have H2 := hide h2
          clear h1 h2
          go_wp2
          go_roundw
          case rel =>
            refine ⟨k + 1, by go_num, hlt, hide fun j hj hjk => ?_, by first | exact trivial | rfl⟩
            rcases Nat.lt_or_ge j k with h | h
            · exact hK.out j hj h
            · obtain rfl : j = k := by omega
              rw [← HX.out]
              exact fun h' => H2.out h'.2
          case measure => simp [intOf]; omega
      · have hb1 : (x2 == 1) = false := by simpa using h1
        have H1 := hide h1
        clear h1
        go_wp2
        go_roundw
        case rel =>
          refine ⟨k + 1, by go_num, hlt, hide fun j hj hjk => ?_, by first | exact trivial | rfl⟩
          rcases Nat.lt_or_ge j k with h | h
          · exact hK.out j hj h
          · obtain rfl : j = k := by omega
            rw [← HX.out]
            exact fun h' => H1.out h'.1
        case measure => simp [intOf]; omega
    · obtain rfl : k = xs.length := by omega
      have HF := hide (fst_none fun j hj => hK.out j hj hj)
      go_wp2
      refine bodyPost_ret (ret_sector rfl _ _ B _ rfl (by rw [← hB]; exact heap_alloc_new w _) rfl) rfl ?_
      refine ⟨_, by rw [HF.out]; rfl, fun x hx => by (rw [HF.out] at hx; cases hx), fun _ => ⟨0, rfl⟩, ?_⟩
      first | exact hBW | (rw [hB]; exact hBW)
end Go.Proofs.Ytmajalpmbppkpaa
