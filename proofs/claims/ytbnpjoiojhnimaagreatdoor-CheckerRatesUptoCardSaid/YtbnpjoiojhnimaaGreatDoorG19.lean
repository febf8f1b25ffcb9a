import Derived.Test.YtbnpjoiojhnimaaGreatDoorG11
import Derived.Test.YtbnpjoiojhnimaaGreatDoorG18
import Derived.Test.YtbnpjoiojhnimaaGreatDoorG12
set_option linter.unusedSimpArgs false
set_option linter.unusedVariables false
/- matrix.odd, Check, bad, square at square matrices: their contracts. -/
namespace Go.Proofs.YtbnpjoiojhnimaaGreatDoor
open Go.RowKit Go.Shelf
set_option maxRecDepth 100000 in
set_option maxHeartbeats 1000000 in
theorem mxOddf_any (b : Bool) (s : ByteArray) (hs : s.size ≤ 8000) (w : World) :
  Calls Tryz.prog 285 #[.agg #[.bool b, .string s]] w fun e w' => e = .returned (.bool (!canB b s)) ∧ Below w.heap.size w w' := by
 have HC := hide (fun W => iCheck_any b s hs W)
 have hk0 : ResI (w.alloc (Obj.cells #[Value.bool b, Value.string s] 55)) w.heap.size b s := ResI.new_ w _ _
 have hB0 : Below w.heap.size w (w.alloc (Obj.cells #[Value.bool b, Value.string s] 55)) := (Below.refl _ w).alloc (Nat.le_refl _) _
 have k0 := hk0.c0
 have k1 := hk0.c1
 cases hc : canB b s with
 | true =>
  rw [hc] at HC
  clear hc hk0 hs
  go_enter Tryz.func285, Tryz.ntmps285
  go_wp2_with fail
  (with_reducible refine (HC.out _).mono ?_)
  rintro e w1 ⟨rfl, hB1⟩
  have HB := hide (hB0.trans (hB1.mono hB0.size))
  clear hB1
  go_wp2
  go_ret
  exact ⟨rfl, HB.out⟩
 | false =>
  rw [hc] at HC
  clear hc hk0 hs
  go_enter Tryz.func285, Tryz.ntmps285
  go_wp2_with fail
  (with_reducible refine (HC.out _).mono ?_)
  rintro e w1 ⟨rfl, hB1⟩
  have HB := hide (hB0.trans (hB1.mono hB0.size))
  clear hB1
  go_wp2
  go_ret
  exact ⟨rfl, HB.out⟩
theorem mgI_size {z : Int} (h : Sml z.natAbs) : (mgI z).size ≤ 8000 := by
 have h2 : (mgI z).size = blen z.natAbs := by
  show (beN z.natAbs).toArray.size = _
  rw [List.size_toArray, beN_len]
 have := h.bytes
 omega
set_option maxRecDepth 100000 in
set_option maxHeartbeats 1000000 in
theorem mxOdd_any (R n : Nat) (f : Nat → Int) (w : World) (hn : n ≤ 40) (hR : R < w.heap.size) (hc : ∀ k, k < n → w.cell? ⟨R, k * 2, none⟩ = some (.bool (ng (f k))) ∧ w.cell? ⟨R, k * 2 + 1, none⟩ = some (.string (mgI (f k)))) (hs : ∀ k, k < n → Sml (f k).natAbs) :
  Calls Tryz.prog 239 #[.slice (some ⟨R, 0, none⟩) n n] w fun e w' => e = .returned (.bool false) ∧ Below w.heap.size w w' := by
 have HF := hide (cfI_any 285 (fun k => ng (f k)) (fun k => mgI (f k)) (fun k => !canB (ng (f k)) (mgI (f k))) n n R 0 w (by omega) hR (by simpa using hc) (enters_of Tryz.func285 (by kernel_rfl) rfl)
  (hide fun k W hk hW => mxOddf_any (ng (f k)) (mgI (f k)) (mgI_size (hs k hk)) W))
 have e : (List.range n).any (fun k => !canB (ng (f k)) (mgI (f k))) = false := by
  rw [List.any_eq_false]
  intro k hk
  rw [canB_g]
  simp
 rw [e] at HF
 clear hc hs e
 go_enter Tryz.func239, Tryz.ntmps239
 go_wp2_with fail
 (with_reducible refine HF.out.mono ?_)
 rintro e w1 ⟨rfl, hB1⟩
 have HB := hide hB1
 clear hB1
 go_wp2
 go_ret
 exact ⟨rfl, HB.out⟩
set_option maxRecDepth 100000 in
set_option maxHeartbeats 1000000 in
theorem mxCheckf_any (G R R0 m n c : Nat) (w : World) (hm0 : 0 < m) (h0 : w.cell? ⟨G, 0, none⟩ = some (.slice (some ⟨R0, 0, none⟩) n n)) (hc : w.cell? ⟨c, 0, none⟩ = some (.slice (some ⟨G, 0, none⟩) m m)) :
  Calls Tryz.prog 238 #[.slice (some ⟨R, 0, none⟩) n n, .pointer (some ⟨c, 0, none⟩)] w fun e w' => e = .returned (.bool false) ∧ Below w.heap.size w w' := by
 have i0 : (0 : Int) < (m : Int) := by omega
 have hnn : ((n : Int) != (n : Int)) = false := by simp
 go_enter Tryz.func238, Tryz.ntmps238
 go_wp2
 go_ret
 exact ⟨rfl, Below.refl _ _⟩
set_option maxRecDepth 100000 in
set_option maxHeartbeats 2000000 in
theorem mxCheck_any (G m n : Nat) (f : Nat → Nat → Int) (w : World) (hm0 : 0 < m) (hm : m ≤ 32) (hn0 : 0 < n) (hn : n ≤ 32) (hM : Mat w G m n f) (hs : ∀ i k, i < m → k < n → Sml (f i k).natAbs) :
  Calls Tryz.prog 185 #[.slice (some ⟨G, 0, none⟩) m m] w fun e w' => e = .returned (.int .i64 0) ∧ Below w.heap.size w w' := by
 have hB0 : Below w.heap.size w (w.alloc (.cells #[.slice (some ⟨G, 0, none⟩) m m] 36)) := (Below.refl _ w).alloc (Nat.le_refl _) _
 have c1 : (w.alloc (.cells #[.slice (some ⟨G, 0, none⟩) m m] 36)).cell? ⟨w.heap.size, 0, none⟩ = some (.slice (some ⟨G, 0, none⟩) m m) := cell_of_one (heap_alloc_new _ _)
 have hM1 := hM.below hB0 (Nat.le_refl _)
 have hs0 : (w.alloc (.cells #[.slice (some ⟨G, 0, none⟩) m m] 36)).heap.size = w.heap.size + 1 := by simp
 obtain ⟨Z, hZ⟩ : ∃ Z, w.heap.size = Z := ⟨_, rfl⟩
 rw [hZ] at hB0 c1 hs0 ⊢
 obtain ⟨R0, hR0, h1, _⟩ := hM1.read hm0
 have hGl := hM1.lt
 have HZ := hide hZ
 obtain ⟨rs, hH, hrow⟩ := hM1
 have HC1 := hide (fun W (hW : Below (w.alloc (.cells #[.slice (some ⟨G, 0, none⟩) m m] 36)).heap.size (w.alloc (.cells #[.slice (some ⟨G, 0, none⟩) m m] 36)) W) =>
  cfR1_any 238 (.pointer (some ⟨Z, 0, none⟩)) (fun i => .slice (some ⟨rs i, 0, none⟩) n n) (fun _ => false) m m G 0 W (by omega) (Nat.lt_of_lt_of_le hGl hW.size)
   (fun i hi => by rw [Nat.zero_add]; exact (hW.cell (p := ⟨G, i, none⟩) hGl).trans (hH.cell hi hi)) (enters_of Tryz.func238 (by kernel_rfl) rfl)
   (hide fun i W' hi hW' => mxCheckf_any G (rs i) R0 m n Z W' hm0 ((hW'.cell (p := ⟨G, 0, none⟩) (Nat.lt_of_lt_of_le hGl hW.size)).trans ((hW.cell (p := ⟨G, 0, none⟩) hGl).trans h1))
    ((hW'.cell (p := ⟨Z, 0, none⟩) (show Z < W.heap.size by have := hW.size; omega)).trans ((hW.cell (p := ⟨Z, 0, none⟩) (by show Z < _; omega)).trans c1))))
 have HC2 := hide (fun W (hW : Below (w.alloc (.cells #[.slice (some ⟨G, 0, none⟩) m m] 36)).heap.size (w.alloc (.cells #[.slice (some ⟨G, 0, none⟩) m m] 36)) W) =>
  cfR_any 239 (fun i => .slice (some ⟨rs i, 0, none⟩) n n) (fun _ => false) m m G 0 W (by omega) (Nat.lt_of_lt_of_le hGl hW.size)
   (fun i hi => by rw [Nat.zero_add]; exact (hW.cell (p := ⟨G, i, none⟩) hGl).trans (hH.cell hi hi)) (enters_of Tryz.func239 (by kernel_rfl) rfl)
   (hide fun i W' hi hW' => mxOdd_any (rs i) n (f i) W' (by omega) (Nat.lt_of_lt_of_le (Nat.lt_of_lt_of_le (hrow i hi).lt hW.size) hW'.size) (fun k hk => by
    have hr := ((hrow i hi).below hW (hrow i hi).lt).below hW' (Nat.lt_of_lt_of_le (hrow i hi).lt hW.size)
    have a := hr.c0 (k := k) (by rw [rowL_len]; exact hk)
    have b := hr.c1 (k := k) (by rw [rowL_len]; exact hk)
    rw [rowL_get hk] at a b
    exact ⟨a, b⟩) (fun k hk => hs i k hi hk)))
 have ea : (List.range m).any (fun _ => false) = false := by simp
 rw [ea] at HC1 HC2
 have i0 : (0 : Int) < (m : Int) := by omega
 have e1 : ((m : Int) == 0) = false := by rw [beq_eq_false_iff_ne]; omega
 have e2 : ((n : Int) == 0) = false := by rw [beq_eq_false_iff_ne]; omega
 have e3 : decide ((32 : Int) < (m : Int)) = false := decide_eq_false (by omega)
 have e4 : decide ((32 : Int) < (n : Int)) = false := decide_eq_false (by omega)
 have hSz := hide hs0
 clear hM hs hrow hH ea hR0 hZ hs0
 go_enter Tryz.func185, Tryz.ntmps185
 go_wp2_with fail
 try rw [HZ.out]
 generalize w.alloc (.cells #[.slice (some ⟨G, 0, none⟩) m m] 36) = W0 at hB0 c1 h1 hGl HC1 HC2 hSz ⊢
 (with_reducible refine (HC1.out _ (Below.refl _ _)).mono ?_)
 rintro e w1 ⟨rfl, hB1⟩
 have c2 := (hB1.cell (p := ⟨Z, 0, none⟩) (show Z < W0.heap.size by have := hSz.out; omega)).trans c1
 have HB1 := hide hB1
 clear hB1
 go_wp2_with fail
 (with_reducible refine (HC2.out _ HB1.out).mono ?_)
 rintro e w2 ⟨rfl, hB2⟩
 have HB2 := hide (hB0.trans ((HB1.out.trans (hB2.mono HB1.out.size)).mono (by have := hSz.out; omega)))
 clear hB2
 go_wp2
 go_ret
 exact ⟨rfl, HB2.out⟩
set_option maxRecDepth 100000 in
set_option maxHeartbeats 1000000 in
theorem mxBadf_any (G m n : Nat) (f : Nat → Nat → Int) (w : World) (hm0 : 0 < m) (hm : m ≤ 32) (hn0 : 0 < n) (hn : n ≤ 32) (hM : Mat w G m n f) (hs : ∀ i k, i < m → k < n → Sml (f i k).natAbs) :
  Calls Tryz.prog 184 #[.slice (some ⟨G, 0, none⟩) m m] w fun e w' => e = .returned (.bool false) ∧ Below w.heap.size w w' := by
 have HC := hide (mxCheck_any G m n f w hm0 hm hn0 hn hM hs)
 clear hM hs
 go_enter Tryz.func184, Tryz.ntmps184
 go_wp2_with fail
 (with_reducible refine HC.out.mono ?_)
 rintro e w1 ⟨rfl, hB1⟩
 have HB := hide hB1
 clear hB1
 go_wp2
 go_ret
 exact ⟨rfl, HB.out⟩
set_option maxRecDepth 100000 in
set_option maxHeartbeats 1000000 in
theorem mxBad_any (D G m n : Nat) (f : Nat → Nat → Int) (w : World) (hm0 : 0 < m) (hm : m ≤ 32) (hn0 : 0 < n) (hn : n ≤ 32) (hM : Mat w G m n f) (hs : ∀ i k, i < m → k < n → Sml (f i k).natAbs) (hc : w.cell? ⟨D, 0, none⟩ = some (.slice (some ⟨G, 0, none⟩) m m)) :
  Calls Tryz.prog 118 #[.slice (some ⟨D, 0, none⟩) 1 1] w fun e w' => e = .returned (.bool false) ∧ Below w.heap.size w w' := by
 have HF := hide (cfM_any 184 (fun _ => .slice (some ⟨G, 0, none⟩) m m) (fun _ => false) 1 1 D 0 w (by decide) (World.block_lt_of_cell? w _ hc) (fun i hi => by
   obtain rfl : i = 0 := by omega
   exact hc) (enters_of Tryz.func184 (by kernel_rfl) rfl)
  (hide fun k W hk hW => mxBadf_any G m n f W hm0 hm hn0 hn (hM.below hW (Nat.le_refl _)) hs))
 rw [show (List.range 1).any (fun _ => false) = false by decide] at HF
 clear hc hs hM
 go_enter Tryz.func118, Tryz.ntmps118
 go_wp2_with fail
 (with_reducible refine HF.out.mono ?_)
 rintro e w1 ⟨rfl, hB1⟩
 have HB := hide hB1
 clear hB1
 go_wp2
 go_ret
 exact ⟨rfl, HB.out⟩
set_option maxRecDepth 100000 in
set_option maxHeartbeats 1000000 in
theorem mxSquare_any (G n : Nat) (f : Nat → Nat → Int) (w : World) (hn0 : 0 < n) (hn : n ≤ 32) (hM : Mat w G n n f) (hs : ∀ i k, i < n → k < n → Sml (f i k).natAbs) :
  Calls Tryz.prog 68 #[.slice (some ⟨G, 0, none⟩) n n] w fun e w' => e = .returned (.int .i64 0) ∧ Below w.heap.size w w' := by
 have hB0 : Below w.heap.size w (w.alloc (.cells #[.slice (some ⟨G, 0, none⟩) n n] 36)) := (Below.refl _ w).alloc (Nat.le_refl _) _
 have HF := hide (mxBad_any w.heap.size G n n f (w.alloc (.cells #[.slice (some ⟨G, 0, none⟩) n n] 36)) hn0 hn hn0 hn (hM.below hB0 (Nat.le_refl _)) hs (cell_of_one (heap_alloc_new _ _)))
 obtain ⟨R, hR, h1, _⟩ := hM.read hn0
 have h2 := (hB0.cell (p := ⟨G, 0, none⟩) hM.lt).trans h1
 have hGl := hM.lt
 have hl0 : G < (w.alloc (.cells #[.slice (some ⟨G, 0, none⟩) n n] 36)).heap.size := Nat.lt_of_lt_of_le hGl hB0.size
 have i0 : (0 : Int) < (n : Int) := by omega
 have hnn : ((n : Int) != (n : Int)) = false := by simp
 clear hM hs h1 hR
 go_enter Tryz.func68, Tryz.ntmps68
 go_wp2_with fail
 (with_reducible refine HF.out.mono ?_)
 rintro e w1 ⟨rfl, hB1⟩
 have h3 := (hB1.cell (p := ⟨G, 0, none⟩) hl0).trans h2
 have HB := hide (hB0.trans (hB1.mono hB0.size))
 clear hB1
 go_wp2
 go_ret
 exact ⟨rfl, HB.out⟩
end Go.Proofs.YtbnpjoiojhnimaaGreatDoor
