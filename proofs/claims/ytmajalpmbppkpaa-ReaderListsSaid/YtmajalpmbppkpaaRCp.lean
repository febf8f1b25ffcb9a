/- grooveref58.Compare: its contract. -/
import Derived.Test.YtmajalpmbppkpaaFst
set_option linter.unusedVariables false
namespace Go.Proofs.Ytmajalpmbppkpaa
open Go.RowKit
/-- a row of rows of integers that lies -/
def RowD (w : World) (A : Option Addr) (ds : List (List Int)) : Prop := 0 < ds.length → ∃ b o, A = some ⟨b, o, none⟩ ∧ b < w.heap.size ∧ ∀ k (hk : k < ds.length), ∃ D c, w.cell? ⟨b, o + k, none⟩ = some (.slice D ds[k].length c) ∧ RowI w D ds[k]
theorem RowD.below {w w' : World} {A : Option Addr} {ds : List (List Int)} (h : RowD w A ds) (hB : Below w.heap.size w w') : RowD w' A ds := by
  intro h0
  obtain ⟨b, o, h1, h2, h3⟩ := h h0
  refine ⟨b, o, h1, Nat.lt_of_lt_of_le h2 hB.size, fun k hk => ?_⟩
  obtain ⟨D, c, c3, hd⟩ := h3 k hk
  exact ⟨D, c, (hB.cell (p := ⟨b, o + k, none⟩) h2).trans c3, hd.below hB⟩
/-- the data of that number were read exactly -/
def readB (xs : List Sct) (d : List Int) (i : Nat) : Bool := match fstOf xs (i : Int) with | some x => decide (x.dt = d) | none => false
def cmpOf (xs : List Sct) (ds : List (List Int)) (k : Nat) : List Int := ((List.range k).filter fun i => !readB xs (ds.getD i []) i).map fun i => ((i : Nat) : Int)
theorem cmpOf_yes {xs : List Sct} {ds : List (List Int)} {k : Nat} (hk : k < ds.length) (h : readB xs ds[k] k = false) : cmpOf xs ds (k + 1) = cmpOf xs ds k ++ [(k : Int)] := by
  unfold cmpOf
  rw [List.range_succ, List.filter_append, List.map_append]
  have e : ds.getD k [] = ds[k] := by rw [List.getD_eq_getElem?_getD, List.getElem?_eq_getElem hk]; rfl
  rw [List.filter_cons, e, h]
  simp
theorem cmpOf_no {xs : List Sct} {ds : List (List Int)} {k : Nat} (hk : k < ds.length) (h : readB xs ds[k] k = true) : cmpOf xs ds (k + 1) = cmpOf xs ds k := by
  unfold cmpOf
  rw [List.range_succ, List.filter_append, List.map_append]
  have e : ds.getD k [] = ds[k] := by rw [List.getD_eq_getElem?_getD, List.getElem?_eq_getElem hk]; rfl
  rw [List.filter_cons, e, h]
  simp
theorem quiet_more {P : Program} {f : FuncId} {args : Array Value} {w : World} {n : Nat} {v : Value}
    (h : Calls P f args (w.drewN n) fun e w' => e = .returned v ∧ ∃ m, w' = (w.drewN n).drewN m) : Calls P f args (w.drewN n) fun e w'' => e = .returned v ∧ ∃ m, w'' = w.drewN m :=
  h.mono fun _ _ ⟨he, m, hm⟩ => ⟨he, n + m, by rw [hm]; simp⟩
theorem cmpOf_len (xs : List Sct) (ds : List (List Int)) (k : Nat) : (cmpOf xs ds k).length ≤ k := by
  unfold cmpOf
  rw [List.length_map]
  have := List.length_filter_le (fun i => !readB xs (ds.getD i []) i) (List.range k)
  rwa [List.length_range] at this
theorem IStr.below {w w' : World} {B : Nat} {v : Value} {zs : List Int} (h : IStr w B v zs) (hB : Below w.heap.size w w') : IStr w' B v zs := by
  unfold IStr World.ownsRow at h ⊢
  refine ⟨h.1, ?_⟩
  rcases h.2 with h' | ⟨g, cap, cur, h1, h2, h3, h4⟩
  · exact .inl h'
  · refine .inr ⟨g, cap, cur, h1, h2, (hB.block g ?_).trans h3, h4⟩
    rcases Nat.lt_or_ge g w.heap.size with hlt | hge
    · exact hlt
    · rw [Array.getElem?_eq_none hge] at h3; cases h3
theorem wpList_app_is {w : World} {ops : Array Oper} {rest : List Oper} {o : Oper} {a : Act} {Q : Exit → Act → World → Prop} (hgd : o.guard = none) (s x : Operand)
    (ho : o.op = .call { callee := .builtin .append, args := #[s, x], argTypes := #[26, 26] })
    (B : Nat) (v : Value) (xs : List Int) (hs : a.eval s = v) (hown : IStr w B v xs)
    (xv : Value) (news : List Int) (hx : a.eval x = xv) (hsl : SlI w xv news) (hb : xs.length + news.length ≤ 4294967296) (hbase : B ≤ w.heap.size)
    (h : ∀ v' w', IStr w' B v' (xs ++ news) → w.grownBy w' v.ownBlock → (v ≠ .slice none 0 0 → v' ≠ .slice none 0 0) → wpList Try.prog ops Q rest (a.put o.dst v') w') : wpList Try.prog ops Q (o :: rest) a w :=
  wpList_plain hgd fun _ hK => by
    obtain ⟨v', w', hr, h2, h3, h4⟩ := run_app_is w o.type B v xs hown xv news hsl hb hbase
    unfold Oper.wp execOp
    simp only [ho, resolve, invoke, builtin, Sem.run_bind, Sem.run_pure, Result.andThen_ok, List.map_toArray, List.map_cons, List.map_nil, hs, hx, hr]
    exact hK _ _ (h v' w' h2 h3 h4)
set_option maxRecDepth 100000 in
set_option maxHeartbeats 4000000 in
theorem refCmp_any (xs : List Sct) (ds : List (List Int)) (A A2 : Option Addr) (c c2 : Nat) (w : World) (hR : RowC w A xs) (hD : RowD w A2 ds) (hb : xs.length ≤ 12) (hb2 : ds.length ≤ 12) (hb3 : ∀ d ∈ ds, d.length ≤ 12) (hb4 : ∀ x ∈ xs, x.dt.length ≤ 12) :
    Calls Try.prog 17 #[.slice A xs.length c, .slice A2 ds.length c2] w fun e w' => ∃ v, e = .returned (.tuple #[v, .int .i64 0]) ∧ Row1I w' w.heap.size v (cmpOf xs ds ds.length) ∧ Below w.heap.size w w' := by
  have HR := hide hR
  have HDD := hide hD
  have HB3 := hide hb3
  have HB4 := hide hb4
  clear hR hD hb3 hb4
  obtain ⟨B, hB⟩ : ∃ B, w.heap.size = B := ⟨_, rfl⟩
  have hr0 : Row1I (w.alloc (Obj.cells #[] 3)) B (.slice (some ⟨B, 0, none⟩) 0 0) [] := ⟨by
    subst hB
    exact World.ownsRow_made (base := w.heap.size) (e := 3) (size := 1) w #[] 0 (Nat.le_refl _) (by decide) rfl, by simp⟩
  have hB0 := (Below.refl B w).alloc (by omega) (Obj.cells #[] 3)
  go_enter Try.func17, Try.ntmps17
  go_wp2
  go_loopw [6, 7] (fun v iv wr => ∃ (v0 : Value) (i : Nat), v0 = v ∧ iv = .int .i64 i ∧ i ≤ ds.length ∧ Row1I wr B v0 (cmpOf xs ds i) ∧ Below B w wr) (fun _ iv _ => ds.length - (intOf iv).toNat)
  case atStart => exact ⟨_, 0, rfl, rfl, Nat.zero_le _, hr0, hB0⟩
  case round =>
    obtain ⟨v0, i, rfl, rfl, hi, hrow, hBw⟩ := hrel
    clear hr0 hB0
    by_cases hlt : i < ds.length
    · have hRw := HR.out.below (by rw [hB]; exact hBw)
      have hDw := HDD.out.below (by rw [hB]; exact hBw)
      have hBs : B ≤ wr.heap.size := by have := hBw.size; omega
      have HF := hide (first58_any xs A c i wr hRw hb)
      have HDW := hide hDw
      have HROW := hide hrow
      have hi0 : (0 : Int) ≤ (i : Int) := by omega
      have hi1 : (i : Int) < (ds.length : Int) := by omega
      clear hRw hDw hrow
      go_wp2_with fail
      refine HF.out.mono ?_
      rintro e w2 ⟨sv, rfl, hs1, hs2, hB2⟩
      have HLN := hide (cmpOf_len xs ds i)
      have hB3 := hBw.trans (hB2.mono hBs)
      have hBs2 : B ≤ w2.heap.size := by have := hB3.size; omega
      have HRX := hide (IStr.below HROW.out.1 hB2)
      have HDX := hide (HDW.out.below hB2)
      cases hf : fstOf xs (i : Int) with
      | none =>
        have HNX := hide (cmpOf_yes (xs := xs) hlt (by unfold readB; rw [hf]))
        obtain ⟨c9, rfl⟩ := hs2 hf
        rw [hf] at *
        clear hs1 hs2 hf
        have hBX := hB3.alloc hBs2 (Obj.cells #[Value.int .i64 0, Value.int .i64 0, Value.int .i64 0, Value.slice none 0 c9] 71)
        have HRX := hide (show IStr (w2.alloc (Obj.cells #[Value.int .i64 0, Value.int .i64 0, Value.int .i64 0, Value.slice none 0 c9] 71)) B v0 (cmpOf xs ds i) from World.ownsRow.alloc HRX.out _)
        go_wp2_with fail
        go_quiet (fail)
        have hBX := belowN hBX nq
        have hBs3 : B ≤ ((w2.alloc (Obj.cells #[Value.int .i64 0, Value.int .i64 0, Value.int .i64 0, Value.slice none 0 c9] 71)).drewN nq).heap.size := by have := hBX.size; omega
        have hrw : IStr (((w2.alloc (Obj.cells #[Value.int .i64 0, Value.int .i64 0, Value.int .i64 0, Value.slice none 0 c9] 71)).drewN nq).alloc (Obj.cells #[Value.int .i64 (i : Int)] 3)) B v0 (cmpOf xs ds i) := World.ownsRow.alloc (w := ((w2.alloc (Obj.cells #[Value.int .i64 0, Value.int .i64 0, Value.int .i64 0, Value.slice none 0 c9] 71)).drewN nq)) HRX.out _
        have hBx := hBX.alloc (show B ≤ (((w2.alloc (Obj.cells #[Value.int .i64 0, Value.int .i64 0, Value.int .i64 0, Value.slice none 0 c9] 71)).drewN nq)).heap.size from hBs3) (Obj.cells #[Value.int .i64 (i : Int)] 3)
        have eW : ((w2.alloc (Obj.cells #[Value.int .i64 0, Value.int .i64 0, Value.int .i64 0, Value.slice none 0 c9] 71)).drewN nq).heap.size = w2.heap.size + 1 := by simp
        have hsl : SlI (((w2.alloc (Obj.cells #[Value.int .i64 0, Value.int .i64 0, Value.int .i64 0, Value.slice none 0 c9] 71)).drewN nq).alloc (Obj.cells #[Value.int .i64 (i : Int)] 3)) (.slice (some ⟨w2.heap.size + 1, 0, none⟩) 1 1) [(i : Int)] := .inr ⟨_, 1, rfl, fun k hk => by
          obtain rfl : k = 0 := by simpa using hk
          rw [show (⟨w2.heap.size + 1, 0, none⟩ : Addr).add 0 = ⟨w2.heap.size + 1, 0, none⟩ from add_zero_ _, ← eW]
          exact cell_of_one (heap_alloc_new _ _)⟩
        have HSL := hide hsl
        clear hsl
        go_wp2_with (at_builtin; refine wpList_app_is rfl _ _ rfl B v0 (cmpOf xs ds i) rfl hrw _ [(i : Int)] rfl HSL.out (by have := HLN.out; simp; omega) (by have := hBx.size; omega) ?_; intro v5 w5 hown5 hg5 hn5; have hBy := hBx.grown hg5 (by have := hBx.size; omega) (fun _ hk => (World.ownsRow.lt hrw _ hk).1))
        have hr5 : Row1I w5 B v5 (cmpOf xs ds (i + 1)) := ⟨by rw [HNX.out]; exact hown5, hn5 HROW.out.2⟩
        clear hrw hBx hg5 hown5 hn5
        go_roundw
        case rel => exact ⟨v5, i + 1, rfl, by go_num, hlt, hr5, hBy⟩
        case measure => simp [intOf]; omega
      | some x =>
        obtain ⟨Dd, cd, rfl, hId⟩ := hs1 x hf
        obtain ⟨b1, o1, rfl, hb1, hdc⟩ := HDX.out (by omega)
        obtain ⟨D2, d2, cc, hI2⟩ := hdc i hlt
        have hRB : readB xs ds[i] i = decide (x.dt = ds[i]) := by unfold readB; rw [hf]
        have hl12 : x.dt.length ≤ 12 := HB4.out x (List.mem_of_find?_eq_some hf)
        have hm12 : ds[i].length ≤ 12 := HB3.out _ (List.getElem_mem hlt)
        rw [hf] at *
        clear hs1 hs2 hf hdc
        obtain ⟨y0, y1, y2, y3⟩ := x
        simp only [] at hId hRB hl12 ⊢
        obtain ⟨dd, hdd⟩ : ∃ dd, dd = ds[i] := ⟨_, rfl⟩
        rw [← hdd] at cc hI2 hRB hm12
        have HDE := hide hdd
        have hBX := hB3.alloc hBs2 (Obj.cells #[Value.int .i64 y0, Value.int .i64 y1, Value.int .i64 y2, Value.slice Dd y3.length cd] 71)
        have hBn : Below w2.heap.size w2 (w2.alloc (Obj.cells #[Value.int .i64 y0, Value.int .i64 y1, Value.int .i64 y2, Value.slice Dd y3.length cd] 71)) := (Below.refl _ w2).alloc (Nat.le_refl _) _
        have HRX := hide (show IStr (w2.alloc (Obj.cells #[Value.int .i64 y0, Value.int .i64 y1, Value.int .i64 y2, Value.slice Dd y3.length cd] 71)) B v0 (cmpOf xs ds i) from World.ownsRow.alloc HRX.out _)
        have cc2 := (hBn.cell (p := ⟨b1, o1 + i, none⟩) hb1).trans cc
        have SM := fun q => same58_any y3 dd Dd D2 cd d2 ((w2.alloc (Obj.cells #[Value.int .i64 y0, Value.int .i64 y1, Value.int .i64 y2, Value.slice Dd y3.length cd] 71)).drewN q) (hId.below (belowN hBn q)) (hI2.below (belowN hBn q)) (by omega) (by omega)
        cases hsm : decide (y3 = dd) with
        | true =>
          rw [hsm] at SM hRB
          have HSM := hide SM
          have HNX := hide (cmpOf_no (xs := xs) hlt (by rw [← HDE.out]; exact hRB))
          clear SM hRB hsm hId hI2 cc hBn hdd
          go_wp2_with fail
          go_quiet ((go_at_call 57; exact quiet_more (HSM.out _)))
          have hBX := belowN hBX nq
          have hr5 : Row1I ((w2.alloc (Obj.cells #[Value.int .i64 y0, Value.int .i64 y1, Value.int .i64 y2, Value.slice Dd y3.length cd] 71)).drewN nq) B v0 (cmpOf xs ds (i + 1)) := ⟨by rw [HNX.out]; exact HRX.out, HROW.out.2⟩
          go_wp2
          go_roundw
          case rel => exact ⟨v0, i + 1, rfl, by go_num, hlt, hr5, hBX⟩
          case measure => simp [intOf]; omega
        | false =>
          rw [hsm] at SM hRB
          have HSM := hide SM
          have HNX := hide (cmpOf_yes (xs := xs) hlt (by rw [← HDE.out]; exact hRB))
          clear SM hRB hsm hId hI2 cc hBn hdd
          go_wp2_with fail
          go_quiet ((go_at_call 57; exact quiet_more (HSM.out _)))
          have hBX := belowN hBX nq
          have hBs3 : B ≤ ((w2.alloc (Obj.cells #[Value.int .i64 y0, Value.int .i64 y1, Value.int .i64 y2, Value.slice Dd y3.length cd] 71)).drewN nq).heap.size := by have := hBX.size; omega
          have hrw : IStr (((w2.alloc (Obj.cells #[Value.int .i64 y0, Value.int .i64 y1, Value.int .i64 y2, Value.slice Dd y3.length cd] 71)).drewN nq).alloc (Obj.cells #[Value.int .i64 (i : Int)] 3)) B v0 (cmpOf xs ds i) := World.ownsRow.alloc (w := ((w2.alloc (Obj.cells #[Value.int .i64 y0, Value.int .i64 y1, Value.int .i64 y2, Value.slice Dd y3.length cd] 71)).drewN nq)) HRX.out _
          have hBx := hBX.alloc (show B ≤ (((w2.alloc (Obj.cells #[Value.int .i64 y0, Value.int .i64 y1, Value.int .i64 y2, Value.slice Dd y3.length cd] 71)).drewN nq)).heap.size from hBs3) (Obj.cells #[Value.int .i64 (i : Int)] 3)
          have eW : ((w2.alloc (Obj.cells #[Value.int .i64 y0, Value.int .i64 y1, Value.int .i64 y2, Value.slice Dd y3.length cd] 71)).drewN nq).heap.size = w2.heap.size + 1 := by simp
          have hsl : SlI (((w2.alloc (Obj.cells #[Value.int .i64 y0, Value.int .i64 y1, Value.int .i64 y2, Value.slice Dd y3.length cd] 71)).drewN nq).alloc (Obj.cells #[Value.int .i64 (i : Int)] 3)) (.slice (some ⟨w2.heap.size + 1, 0, none⟩) 1 1) [(i : Int)] := .inr ⟨_, 1, rfl, fun k hk => by
            obtain rfl : k = 0 := by simpa using hk
            rw [show (⟨w2.heap.size + 1, 0, none⟩ : Addr).add 0 = ⟨w2.heap.size + 1, 0, none⟩ from add_zero_ _, ← eW]
            exact cell_of_one (heap_alloc_new _ _)⟩
          have HSL := hide hsl
          clear hsl
          go_wp2_with (at_builtin; refine wpList_app_is rfl _ _ rfl B v0 (cmpOf xs ds i) rfl hrw _ [(i : Int)] rfl HSL.out (by have := HLN.out; simp; omega) (by have := hBx.size; omega) ?_; intro v5 w5 hown5 hg5 hn5; have hBy := hBx.grown hg5 (by have := hBx.size; omega) (fun _ hk => (World.ownsRow.lt hrw _ hk).1))
          have hr5 : Row1I w5 B v5 (cmpOf xs ds (i + 1)) := ⟨by rw [HNX.out]; exact hown5, hn5 HROW.out.2⟩
          clear hrw hBx hg5 hown5 hn5
          go_roundw
          case rel => exact ⟨v5, i + 1, rfl, by go_num, hlt, hr5, hBy⟩
          case measure => simp [intOf]; omega
    · obtain rfl : i = ds.length := by omega
      go_wp2
      go_ret2
      exact ⟨v0, rfl, by first | exact hrow | (rw [hB]; exact hrow), by first | exact hBw | (rw [hB]; exact hBw)⟩
end Go.Proofs.Ytmajalpmbppkpaa
