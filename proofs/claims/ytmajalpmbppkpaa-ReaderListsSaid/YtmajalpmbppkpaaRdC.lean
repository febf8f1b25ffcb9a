/- reader.Compare: its contract. -/
import Derived.Test.YtmajalpmbppkpaaRdF
import Derived.Test.YtmajalpmbppkpaaRCp
set_option linter.unusedVariables false
namespace Go.Proofs.Ytmajalpmbppkpaa
open Go.RowKit
set_option maxRecDepth 100000 in
set_option maxHeartbeats 4000000 in
theorem rdCmp_any (xs : List Sct) (ds : List (List Int)) (A A2 : Option Addr) (c c2 : Nat) (w : World) (hR : RowC w A xs) (hD : RowD w A2 ds) (hb : xs.length ≤ 12) (hb2 : ds.length ≤ 12) (hb3 : ∀ d ∈ ds, d.length ≤ 12) (hb4 : ∀ x ∈ xs, x.dt.length ≤ 12) (hw : ∀ x ∈ xs, (Lit.int .i64 x.ix).wf = true) :
    Calls Try.prog 16 #[.slice A xs.length c, .slice A2 ds.length c2] w fun e w' => ∃ v, e = .returned (.tuple #[v, .int .i64 0]) ∧ IStr w' w.heap.size v (cmpOf xs ds ds.length) ∧ Below w.heap.size w w' := by
  obtain ⟨L, hL, hV, hI⟩ := rowV_of hR hw
  have hLl : xs.length = L.length := by rw [← hL, List.length_map]
  have hb5 : L.length ≤ 12 := by omega
  rw [hLl]
  have HL := hide hL
  have HI := hide hI
  have HDD := hide hD
  have HB3 := hide hb3
  have HB4 := hide hb4
  have hVC := hide (show RowV (w.alloc (.cells #[.slice A L.length c] 22)).heap.size (w.alloc (.cells #[.slice A L.length c] 22)) A L from by
    intro h0
    obtain ⟨b, o, h1, h2, h3⟩ := (hV.below ((Below.refl _ w).alloc (Nat.le_refl _) _)) h0
    exact ⟨b, o, h1, by simp; omega, h3⟩)
  clear hR hD hb3 hb4 hL hI hV hLl hw
  obtain ⟨B, hB⟩ : ∃ B, w.heap.size = B := ⟨_, rfl⟩
  have hVL := callsIn_wide.1 (vals_in Fence.wide 1 trivial rfl A L.length c w)
  have hRF := rdFirst_any L A c w.heap.size (w.alloc (.cells #[.slice A L.length c] 22)) hb5 (by simp) (cell_new_v _ _ _) hVC.out
  have hB1 : Below w.heap.size w (w.alloc (.cells #[.slice A L.length c] 22)) := (Below.refl _ w).alloc (Nat.le_refl _) _
  rw [World.size_alloc, hB] at hRF
  rw [hB] at hVL hB1
  go_enter Try.func16, Try.ntmps16
  go_wp2_with fail
  refine hVL.mono ?_
  rintro e w1 ⟨rfl, rfl⟩
  go_wp2_with fail
  refine hRF.mono ?_
  rintro e w1 ⟨rfl, hm, hB2⟩
  have hB3 := hB1.trans (hB2.mono (by omega))
  have hsz : B + 1 < w1.heap.size := by obtain ⟨D, h1, _⟩ := hm; exact h1.lt
  have hr0 : IStr w1 (B + 2) (.slice none 0 0) [] := World.ownsRow_nil _ _ _ _
  clear hVL hRF hB1 hB2
  go_wp2
  go_loopw [7, 17] (fun v iv wr => ∃ (v0 : Value) (i : Nat), v0 = v ∧ iv = .int .i64 i ∧ i ≤ ds.length ∧ IStr wr (B + 2) v0 (cmpOf xs ds i) ∧ MapV wr (B + 1) L.length L ∧ Below B w wr ∧ B + 2 ≤ wr.heap.size) (fun _ iv _ => ds.length - (intOf iv).toNat)
  case atStart => exact ⟨_, 0, rfl, rfl, Nat.zero_le _, hr0, hm, hB3, hsz⟩
  case round =>
    obtain ⟨v0, i, rfl, rfl, hi, hrow, hmw, hBw, hsw⟩ := hrel
    clear hr0 hB3 hm hsz
    by_cases hlt : i < ds.length
    · have hDw := HDD.out.below (by rw [hB]; exact hBw)
      obtain ⟨b1, o1, rfl, hb1, hdc⟩ := hDw (by omega)
      obtain ⟨D2, d2, cc, hI2⟩ := hdc i hlt
      have hi0 : (0 : Int) ≤ (i : Int) := by omega
      have hi1 : (i : Int) < (ds.length : Int) := by omega
      have hlook := hmw.look (i : Int) (by simp [Lit.wf, IntKind.min, IntKind.max, IntKind.bits, IntKind.signed]; omega)
      have hm12 : ds[i].length ≤ 12 := HB3.out _ (List.getElem_mem hlt)
      have HLN := hide (cmpOf_len xs ds i)
      have hFO := fstV_of L (i : Int)
      rw [HL.out] at hFO
      obtain ⟨dd, hdd⟩ : ∃ dd, dd = ds[i] := ⟨_, rfl⟩
      rw [← hdd] at cc hI2 hm12
      have HDE := hide hdd
      clear hdc hDw hdd
      cases hf : fstV L (i : Int) with
      | none =>
        rw [hf] at hFO
        have HNX := hide (cmpOf_yes (xs := xs) hlt (by unfold readB; rw [hFO]; rfl))
        simp only [lookV, hf, Option.isSome_none, zeroSec] at hlook
        have hBX := hBw.alloc (by omega) (Obj.cells #[Value.int .i64 0, Value.int .i64 0, Value.int .i64 0, Value.slice none 0 0] 71)
        have HRX := hide (show IStr (wr.alloc (Obj.cells #[Value.int .i64 0, Value.int .i64 0, Value.int .i64 0, Value.slice none 0 0] 71)) (B + 2) v0 (cmpOf xs ds i) from World.ownsRow.alloc hrow _)
        have hmX : MapV (wr.alloc (Obj.cells #[Value.int .i64 0, Value.int .i64 0, Value.int .i64 0, Value.slice none 0 0] 71)) (B + 1) L.length L := hmw.kept (World.grownBy_alloc _ _ none) (by simp)
        clear hf hFO hrow
        have hBs3 : B ≤ (wr.alloc (Obj.cells #[Value.int .i64 0, Value.int .i64 0, Value.int .i64 0, Value.slice none 0 0] 71)).heap.size := by have := hBX.size; omega
        have hrw : IStr ((wr.alloc (Obj.cells #[Value.int .i64 0, Value.int .i64 0, Value.int .i64 0, Value.slice none 0 0] 71)).alloc (Obj.cells #[Value.int .i64 (i : Int)] 3)) (B + 2) v0 (cmpOf xs ds i) := World.ownsRow.alloc (w := (wr.alloc (Obj.cells #[Value.int .i64 0, Value.int .i64 0, Value.int .i64 0, Value.slice none 0 0] 71))) HRX.out _
        have hBx := hBX.alloc (show B ≤ (wr.alloc (Obj.cells #[Value.int .i64 0, Value.int .i64 0, Value.int .i64 0, Value.slice none 0 0] 71)).heap.size from hBs3) (Obj.cells #[Value.int .i64 (i : Int)] 3)
        have hmx : MapV ((wr.alloc (Obj.cells #[Value.int .i64 0, Value.int .i64 0, Value.int .i64 0, Value.slice none 0 0] 71)).alloc (Obj.cells #[Value.int .i64 (i : Int)] 3)) (B + 1) L.length L := hmX.kept (World.grownBy_alloc _ _ none) (by simp)
        have eW : (wr.alloc (Obj.cells #[Value.int .i64 0, Value.int .i64 0, Value.int .i64 0, Value.slice none 0 0] 71)).heap.size = wr.heap.size + 1 := by simp
        have hsl : SlI ((wr.alloc (Obj.cells #[Value.int .i64 0, Value.int .i64 0, Value.int .i64 0, Value.slice none 0 0] 71)).alloc (Obj.cells #[Value.int .i64 (i : Int)] 3)) (.slice (some ⟨wr.heap.size + 1, 0, none⟩) 1 1) [(i : Int)] := .inr ⟨_, 1, rfl, fun k hk => by
          obtain rfl : k = 0 := by simpa using hk
          rw [show (⟨wr.heap.size + 1, 0, none⟩ : Addr).add 0 = ⟨wr.heap.size + 1, 0, none⟩ from add_zero_ _, ← eW]
          exact cell_of_one (heap_alloc_new _ _)⟩
        have HSL := hide hsl
        have HMX := hide hmx
        clear hsl hmx
        go_wp2_with (at_builtin; refine wpList_app_is rfl _ _ rfl (B + 2) v0 (cmpOf xs ds i) rfl hrw _ [(i : Int)] rfl HSL.out (by have := HLN.out; simp; omega) (by simp; omega) ?_; intro v5 w5 hown5 hg5 hn5)
        have hne5 : some (B + 1) ≠ v0.ownBlock := fun e => by have := (World.ownsRow.lt hrw _ e.symm).1; omega
        have hmy := HMX.out.kept hg5 hne5
        have hBy := hBx.grown hg5 (by have := hBx.size; omega) (fun _ hk => by have := (World.ownsRow.lt hrw _ hk).1; omega)
        have hs5 : B + 2 ≤ w5.heap.size := by obtain ⟨_, h1, _⟩ := hmy; exact h1.lt
        have hr5 : IStr w5 (B + 2) v5 (cmpOf xs ds (i + 1)) := by rw [HNX.out]; exact hown5
        clear hrw hBx hg5 hown5 hn5
        go_roundw
        case rel => exact ⟨v5, i + 1, rfl, by go_num, hlt, hr5, hmy, hBy, hs5⟩
        case measure => simp [intOf]; omega
      | some x =>
        rw [hf] at hFO
        have hRB : readB xs ds[i] i = decide (x.1.1.dt = ds[i]) := by unfold readB; rw [hFO]; rfl
        have hIx := HI.out x (List.mem_of_find?_eq_some hf)
        have hl12 : x.1.1.dt.length ≤ 12 := HB4.out _ (by rw [← HL.out]; exact List.mem_map_of_mem (List.mem_of_find?_eq_some hf))
        simp only [lookV, hf, Option.isSome_some] at hlook
        rw [← HDE.out] at hRB
        obtain ⟨⟨⟨y0, y1, y2, y3⟩, Dd, cd⟩, hwf⟩ := x
        simp only [encV] at hlook hRB hIx hl12
        clear hf hFO
        have hBX := hBw.alloc (by omega) (Obj.cells #[Value.int .i64 y0, Value.int .i64 y1, Value.int .i64 y2, Value.slice Dd y3.length cd] 71)
        have HRX := hide (show IStr (wr.alloc (Obj.cells #[Value.int .i64 y0, Value.int .i64 y1, Value.int .i64 y2, Value.slice Dd y3.length cd] 71)) (B + 2) v0 (cmpOf xs ds i) from World.ownsRow.alloc hrow _)
        have hmX : MapV (wr.alloc (Obj.cells #[Value.int .i64 y0, Value.int .i64 y1, Value.int .i64 y2, Value.slice Dd y3.length cd] 71)) (B + 1) L.length L := hmw.kept (World.grownBy_alloc _ _ none) (by simp)
        have hBn : Below wr.heap.size wr (wr.alloc (Obj.cells #[Value.int .i64 y0, Value.int .i64 y1, Value.int .i64 y2, Value.slice Dd y3.length cd] 71)) := (Below.refl _ wr).alloc (Nat.le_refl _) _
        have hSE := slEqI_any y3 dd Dd D2 cd d2 (wr.alloc (Obj.cells #[Value.int .i64 y0, Value.int .i64 y1, Value.int .i64 y2, Value.slice Dd y3.length cd] 71)) ((hIx.below (by rw [hB]; exact hBw)).below hBn) (hI2.below hBn) (by omega) (by omega)
        have cc2 := (hBn.cell (p := ⟨b1, o1 + i, none⟩) hb1).trans cc
        cases hsm : decide (y3 = dd) with
        | true =>
          rw [hsm] at hRB hSE
          have HNX := hide (cmpOf_no (xs := xs) hlt (by rw [← HDE.out]; exact hRB))
          clear hRB hsm hIx hI2 hrow
          go_wp2_with fail
          refine hSE.mono ?_
          rintro e w5 ⟨rfl, nq, rfl⟩
          have hBX := belowN hBX nq
          have hr5 : IStr ((wr.alloc (Obj.cells #[Value.int .i64 y0, Value.int .i64 y1, Value.int .i64 y2, Value.slice Dd y3.length cd] 71)).drewN nq) (B + 2) v0 (cmpOf xs ds (i + 1)) := by rw [HNX.out]; exact HRX.out
          have hs5 : B + 2 ≤ ((wr.alloc (Obj.cells #[Value.int .i64 y0, Value.int .i64 y1, Value.int .i64 y2, Value.slice Dd y3.length cd] 71)).drewN nq).heap.size := by simp; omega
          have hmy : MapV ((wr.alloc (Obj.cells #[Value.int .i64 y0, Value.int .i64 y1, Value.int .i64 y2, Value.slice Dd y3.length cd] 71)).drewN nq) (B + 1) L.length L := hmX
          go_wp2
          go_roundw
          case rel => exact ⟨v0, i + 1, rfl, by go_num, hlt, hr5, hmy, hBX, hs5⟩
          case measure => simp [intOf]; omega
        | false =>
          rw [hsm] at hRB hSE
          have HNX := hide (cmpOf_yes (xs := xs) hlt (by rw [← HDE.out]; exact hRB))
          clear hRB hsm hIx hI2 hrow
          go_wp2_with fail
          refine hSE.mono ?_
          rintro e w5 ⟨rfl, nq, rfl⟩
          have hBX := belowN hBX nq
          have hmX : MapV ((wr.alloc (Obj.cells #[Value.int .i64 y0, Value.int .i64 y1, Value.int .i64 y2, Value.slice Dd y3.length cd] 71)).drewN nq) (B + 1) L.length L := hmX
          have hBs3 : B ≤ (((wr.alloc (Obj.cells #[Value.int .i64 y0, Value.int .i64 y1, Value.int .i64 y2, Value.slice Dd y3.length cd] 71)).drewN nq)).heap.size := by have := hBX.size; omega
          have hrw : IStr ((((wr.alloc (Obj.cells #[Value.int .i64 y0, Value.int .i64 y1, Value.int .i64 y2, Value.slice Dd y3.length cd] 71)).drewN nq)).alloc (Obj.cells #[Value.int .i64 (i : Int)] 3)) (B + 2) v0 (cmpOf xs ds i) := World.ownsRow.alloc (w := (((wr.alloc (Obj.cells #[Value.int .i64 y0, Value.int .i64 y1, Value.int .i64 y2, Value.slice Dd y3.length cd] 71)).drewN nq))) HRX.out _
          have hBx := hBX.alloc (show B ≤ (((wr.alloc (Obj.cells #[Value.int .i64 y0, Value.int .i64 y1, Value.int .i64 y2, Value.slice Dd y3.length cd] 71)).drewN nq)).heap.size from hBs3) (Obj.cells #[Value.int .i64 (i : Int)] 3)
          have hmx : MapV ((((wr.alloc (Obj.cells #[Value.int .i64 y0, Value.int .i64 y1, Value.int .i64 y2, Value.slice Dd y3.length cd] 71)).drewN nq)).alloc (Obj.cells #[Value.int .i64 (i : Int)] 3)) (B + 1) L.length L := hmX.kept (World.grownBy_alloc _ _ none) (by simp)
          have eW : (((wr.alloc (Obj.cells #[Value.int .i64 y0, Value.int .i64 y1, Value.int .i64 y2, Value.slice Dd y3.length cd] 71)).drewN nq)).heap.size = wr.heap.size + 1 := by simp
          have hsl : SlI ((((wr.alloc (Obj.cells #[Value.int .i64 y0, Value.int .i64 y1, Value.int .i64 y2, Value.slice Dd y3.length cd] 71)).drewN nq)).alloc (Obj.cells #[Value.int .i64 (i : Int)] 3)) (.slice (some ⟨wr.heap.size + 1, 0, none⟩) 1 1) [(i : Int)] := .inr ⟨_, 1, rfl, fun k hk => by
            obtain rfl : k = 0 := by simpa using hk
            rw [show (⟨wr.heap.size + 1, 0, none⟩ : Addr).add 0 = ⟨wr.heap.size + 1, 0, none⟩ from add_zero_ _, ← eW]
            exact cell_of_one (heap_alloc_new _ _)⟩
          have HSL := hide hsl
          have HMX := hide hmx
          clear hsl hmx
          go_wp2_with (at_builtin; refine wpList_app_is rfl _ _ rfl (B + 2) v0 (cmpOf xs ds i) rfl hrw _ [(i : Int)] rfl HSL.out (by have := HLN.out; simp; omega) (by simp; omega) ?_; intro v5 w5 hown5 hg5 hn5)
          have hne5 : some (B + 1) ≠ v0.ownBlock := fun e => by have := (World.ownsRow.lt hrw _ e.symm).1; omega
          have hmy := HMX.out.kept hg5 hne5
          have hBy := hBx.grown hg5 (by have := hBx.size; omega) (fun _ hk => by have := (World.ownsRow.lt hrw _ hk).1; omega)
          have hs5 : B + 2 ≤ w5.heap.size := by obtain ⟨_, h1, _⟩ := hmy; exact h1.lt
          have hr5 : IStr w5 (B + 2) v5 (cmpOf xs ds (i + 1)) := by rw [HNX.out]; exact hown5
          clear hrw hBx hg5 hown5 hn5
          go_roundw
          case rel => exact ⟨v5, i + 1, rfl, by go_num, hlt, hr5, hmy, hBy, hs5⟩
          case measure => simp [intOf]; omega
    · obtain rfl : i = ds.length := by omega
      go_wp2
      go_ret2
      exact ⟨v0, rfl, by rw [hB]; exact hrow.mono (by omega), by first | exact hBw | (rw [hB]; exact hBw)⟩
end Go.Proofs.Ytmajalpmbppkpaa
