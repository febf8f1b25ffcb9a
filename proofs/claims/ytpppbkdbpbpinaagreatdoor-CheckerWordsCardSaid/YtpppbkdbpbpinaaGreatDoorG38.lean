import Derived.Test.YtpppbkdbpbpinaaGreatDoorG37
import Derived.Test.YtpppbkdbpbpinaaGreatDoorG28
import Derived.Laws.ResultCell
import Derived.Great.BuildSlice
import Derived.Laws.CopyOwn
set_option linter.unusedSimpArgs false
set_option linter.unusedVariables false
/- checker.Rate where 'Refute' finds a refusal: its contract. -/
set_option linter.unusedVariables false
namespace Go.Proofs.YtpppbkdbpbpinaaGreatDoor
open Go.RowKit Go.Shelf
theorem certSize : (Tryz.prog.info? 42).map (·.size) = some 19 := by kernel_rfl
theorem ret_cert {fn : Func} {p u : Tmp} (h : fn.results = #[.cell p 42, .tmp u]) (tmps : Array Value) (w : World) (g : Nat) (cs : Array Value) (hp : tmps.getD p undef = .pointer (some ⟨g, 0, none⟩)) (hg : w.heap[g]? = some (.cells cs 42 (0, 0))) (hcs : cs.size = 19) :
    (results fn tmps).run Tryz.prog w = .ok (.tuple #[.agg cs, tmps.getD u undef]) w := by
  rw [results_cell_tmp h, hp]
  simp [asAddr, Result.andThen, run_loadVar_row w g 42 42 cs (0, 0) _ hg Tryz.underlying42 rfl (by rw [hcs]; exact certSize)]
set_option maxRecDepth 100000 in
set_option maxHeartbeats 4000000 in
theorem ckRate_ok (L : Int) (n m : Nat) (es : List Edg) (A : Option Addr) (c : Nat) (w : World) (hG : okG L (n : Int) es = true) (hM : okM (m : Int) = true) (hn0 : 0 < n) (hn : n ≤ 32) (he : ∀ e ∈ es, inE n e) (hr : RowE w A es) (hb : refB n es m (outV n m es) = true) :
    Calls Tryz.prog 16 #[.agg #[.int .i64 L, .int .i64 (n : Int), .slice A es.length c], .int .i64 (m : Int)] w fun e w' => ∃ G I, e = .returned (.tuple #[.agg #[.int .i64 2, .int .i64 L, .int .i64 (n : Int), .slice A es.length c, .int .i64 0, .slice none 0 0, .int .i64 0, .slice none 0 0, .int .i64 0, .int .i64 0, .slice none 0 0, .slice none 0 0, .int .i64 0, .slice none 0 0, .slice (some ⟨G, 0, none⟩) n n, .slice (some ⟨I, 0, none⟩) 1 1, .slice none 0 0, .slice none 0 0, .slice none 0 0], .int .i64 0]) ∧
      w.heap.size ≤ G ∧ w.heap.size ≤ I ∧ SRow w' G (rowL n (outV n m es)) ∧ I < w'.heap.size ∧ w'.cell? ⟨I, 0, none⟩ = some (.int .i64 (m : Int)) ∧ Below w.heap.size w w' := by
  have hB0 : Below w.heap.size w (w.alloc (.cells #[.int .i64 L, .int .i64 (n : Int), .slice A es.length c] 32)) := (Below.refl _ w).alloc (Nat.le_refl _) _
  have hb0 : (w.alloc (.cells #[.int .i64 L, .int .i64 (n : Int), .slice A es.length c] 32)).heap[w.heap.size]? = some (.cells #[.int .i64 L, .int .i64 (n : Int), .slice A es.length c] 32 (0, 0)) := heap_alloc_new w _
  have HR := hide (fun W (hW : Below w.heap.size w W) => show Calls Tryz.prog 40 #[.agg #[.int .i64 L, .int .i64 (n : Int), .slice A es.length c], .int .i64 (m : Int)] W (fun e w' => ∃ G, e = .returned (.tuple #[.slice (some ⟨G, 0, none⟩) n n, .int .i64 0]) ∧ Below W.heap.size W w' ∧ W.heap.size ≤ G ∧ SRow w' G (rowL n (outV n m es))) from by
    refine (evRefute_ok L n m es A c W hG hM hn0 hn he (hr.below hW)).mono ?_
    rintro e w' ⟨h1, h2⟩
    rcases h2 with ⟨_, G, rfl, h3, h4⟩ | ⟨h2, _⟩
    · exact ⟨G, rfl, h1, h3, h4⟩
    · rw [hb] at h2; cases h2)
  clear hr he hG hM hb
  obtain ⟨Z, hZ⟩ : ∃ Z, w.heap.size = Z := ⟨_, rfl⟩
  rw [hZ] at hb0
  have HZ := hide hZ
  clear hZ
  go_enter Tryz.func16, Tryz.ntmps16
  go_wp2_with fail
  try rw [HZ.out]
  have HS0 := hide (show (w.alloc (Obj.cells #[.int .i64 L, .int .i64 (n : Int), .slice A es.length c] 32)).heap.size = Z + 1 by rw [← HZ.out]; simp)
  generalize w.alloc (Obj.cells #[.int .i64 L, .int .i64 (n : Int), .slice A es.length c] 32) = W0 at hb0 hB0 HS0 ⊢
  have hs0 : W0.heap.size = Z + 1 := HS0.out
  obtain ⟨CZ, hCZ⟩ : ∃ CZ : Array Value, CZ = #[.int .i64 0, .int .i64 0, .int .i64 0, .slice none 0 0, .int .i64 0, .slice none 0 0, .int .i64 0, .slice none 0 0, .int .i64 0, .int .i64 0, .slice none 0 0, .slice none 0 0, .int .i64 0, .slice none 0 0, .slice none 0 0, .slice none 0 0, .slice none 0 0, .slice none 0 0, .slice none 0 0] := ⟨_, rfl⟩
  rw [← hCZ]
  have hA : Below W0.heap.size W0 (W0.alloc (.cells CZ 42)) := (Below.refl _ W0).alloc (Nat.le_refl _) _
  have hbC : (W0.alloc (.cells CZ 42)).heap[Z + 1]? = some (.cells CZ 42 (0, 0)) := by rw [← hs0]; exact heap_alloc_new W0 _
  have hb1 := (hA.block Z (by omega)).trans hb0
  have hB1 := hB0.trans (hA.mono hB0.size)
  have hs1 : (W0.alloc (.cells CZ 42)).heap.size = Z + 2 := by rw [show Z + 2 = (Z + 1) + 1 from rfl, ← hs0]; simp
  generalize W0.alloc (.cells CZ 42) = W1 at hbC hb1 hB1 hs1 ⊢
  (with_reducible refine (HR.out W1 hB1).mono ?_)
  rintro e w2 ⟨G, rfl, hB2, hG, hRow⟩
  have hb2 := (hB2.block Z (by omega)).trans hb1
  have hbC2 := (hB2.block (Z + 1) (by omega)).trans hbC
  have g0 : w2.cell? ⟨Z, 0, none⟩ = some (.int .i64 L) := by rw [cell_of_row _ _ 0 _ 32 (0, 0) hb2]; rfl
  have g1 : w2.cell? ⟨Z, 1, none⟩ = some (.int .i64 (n : Int)) := by rw [cell_of_row _ _ 1 _ 32 (0, 0) hb2]; rfl
  have g2 : w2.cell? ⟨Z, 2, none⟩ = some (.slice A es.length c) := by rw [cell_of_row _ _ 2 _ 32 (0, 0) hb2]; rfl
  have HB2 := hide (hB1.trans (hB2.mono hB1.size))
  have HRow := hide hRow
  clear hb0 hb1 hbC hB0 hA HR hB1 hB2 hRow hs0 hb2
  have hCs : CZ.size = 19 := by rw [hCZ]; rfl
  clear hCZ
  obtain ⟨I, hI⟩ : ∃ I, w2.heap.size = I := ⟨_, rfl⟩
  have hA3 : Below I w2 (w2.alloc (.cells #[.int .i64 (m : Int)] 3)) := by rw [← hI]; exact (Below.refl _ w2).alloc (Nat.le_refl _) _
  have hI0 : (w2.alloc (.cells #[.int .i64 (m : Int)] 3)).heap[I]? = some (.cells #[.int .i64 (m : Int)] 3 (0, 0)) := by rw [← hI]; exact heap_alloc_new w2 _
  have hZI : Z + 2 ≤ I := by rw [← hI]; have := HB2.out.size; have := block_lt_of_cell g0; have := (Array.getElem?_eq_some_iff.1 hbC2).1; omega
  have hbC3 := (hA3.block (Z + 1) (by omega)).trans hbC2
  have HI := hide hI
  clear hI
  go_wp2_with (refine wpList_store_rowTo (by rfl) 42 _ _ (by rfl) (by rfl) (Z + 1) #[.int .i64 2, .int .i64 L, .int .i64 (n : Int), .slice A es.length c, .int .i64 0, .slice none 0 0, .int .i64 0, .slice none 0 0, .int .i64 0, .int .i64 0, .slice none 0 0, .slice none 0 0, .int .i64 0, .slice none 0 0, .slice (some ⟨G, 0, none⟩) n n, .slice (some ⟨w2.heap.size, 0, none⟩) 1 1, .slice none 0 0, .slice none 0 0, .slice none 0 0] (by rfl) (by rfl) 42 CZ hbC3 (by kernel_rfl) hCs (by kernel_rfl) ?_)
  refine bodyPost_ret (ret_cert rfl _ _ (Z + 1) _ rfl (setRow_heap _ _ CZ _ 42 (0, 0) hbC3) rfl) rfl ?_
  have hGZ : G ≠ Z + 1 := by omega
  have hIZ : I ≠ Z + 1 := by omega
  have hGI : G < I := by rw [← HI.out]; exact HRow.out.lt
  refine ⟨G, I, by rw [← HI.out]; rfl, by rw [HZ.out]; omega, by rw [HZ.out]; omega, ?_, ?_, ?_, ?_⟩
  · exact (setRow_other _ _ _ _ hGZ).trans ((hA3.block G hGI).trans HRow.out)
  · rw [setRow_size]; exact (Array.getElem?_eq_some_iff.1 hI0).1
  · rw [cell_setRow_other _ _ _ _ hIZ, cell_of_row _ _ 0 _ 3 (0, 0) hI0]; rfl
  · exact below_setRow (HB2.out.trans (hA3.mono (by rw [HZ.out]; omega))) (by rw [HZ.out]; omega) _
end Go.Proofs.YtpppbkdbpbpinaaGreatDoor

/- checker.Distance: its contract. -/
set_option linter.unusedVariables false
namespace Go.Proofs.YtpppbkdbpbpinaaGreatDoor
open Go.RowKit Go.Shelf
/-- a certificate of a distance -/
def crtD (A : Option Addr) (n c I : Nat) : Crt := ⟨9, 0, 0, .nil, 0, .nil, 0, .nil, 0, 0, .nil, .nil, 0, .nil, .nil, ⟨some ⟨I, 0, none⟩, 3, 3⟩, ⟨A, n, c⟩, .nil, .nil⟩
/-- what Distance answers -/
def DisP (xs : List ByteArray) (A : Option Addr) (c : Nat) (w' : World) (e : Ending) : Prop :=
  (leE xs ≠ 0 ∧ e = .returned (.tuple #[.agg (Crt.nil 0).cells, .int .i64 (leE xs)])) ∨
  (leE xs = 0 ∧ (∃ m, NoB xs (leV xs) xs.length m) ∧ e = .returned (.tuple #[.agg (Crt.nil 0).cells, .int .i64 6])) ∨
  (leE xs = 0 ∧ ∃ i k I : Nat, FndB xs (leV xs) i k ∧ e = .returned (.tuple #[.agg (crtD A xs.length c I).cells, .int .i64 0]) ∧ RowI w' (some ⟨I, 0, none⟩) [(leV xs : Nat), i, k])
theorem rowI3 {w : World} {I : Nat} {a b c : Int} {t : TypeId} (h : w.heap[I]? = some (.cells #[.int .i64 a, .int .i64 b, .int .i64 c] t (0, 0))) : RowI w (some ⟨I, 0, none⟩) [a, b, c] := fun _ =>
  ⟨I, 0, rfl, (Array.getElem?_eq_some_iff.1 h).1, fun k hk => by
    rw [cell_of_row w I (0 + k) _ t (0, 0) h]
    have hk3 : k < 3 := by simpa using hk
    match k, hk3 with
    | 0, _ => rfl
    | 1, _ => rfl
    | 2, _ => rfl⟩
def CZr : Array Value := (Crt.nil 0).cells
set_option maxRecDepth 100000 in
set_option maxHeartbeats 4000000 in
theorem ckDist_any (xs : List ByteArray) (A : Option Addr) (c : Nat) (w : World) (hR : RowT w A xs) (hb : xs.length ≤ 9223372036854775807) (hs : ∀ x ∈ xs, x.size ≤ 4294967296) :
    Calls Tryz.prog 10 #[.slice A xs.length c] w fun e w' => DisP xs A c w' e ∧ Below w.heap.size w w' := by
  obtain ⟨Z, hZ⟩ : ∃ Z, w.heap.size = Z := ⟨_, rfl⟩
  have HL := hide (fun W (h : RowT W A xs) => dsLeast_any xs A c W h hb hs)
  have HR := hide (fun W (h : Below Z w W) => hR.below (hZ ▸ h : Below w.heap.size w W))
  have HS := hide hs
  have hB1 : Below Z w (w.alloc (.cells (Crt.nil 0).cells 42)) := by rw [← hZ]; exact (Below.refl _ w).alloc (Nat.le_refl _) _
  have hb1 : (w.alloc (.cells (Crt.nil 0).cells 42)).heap[Z]? = some (.cells (Crt.nil 0).cells 42 (0, 0)) := hZ ▸ heap_alloc_new w _
  have HZ := hide hZ
  obtain ⟨CZ, hCZ⟩ : ∃ CZ : Array Value, CZ = (Crt.nil 0).cells := ⟨_, rfl⟩
  have HCz := hide hCZ
  have hCs : CZ.size = 19 := by rw [hCZ]; rfl
  rw [← hCZ] at hB1 hb1
  have hCZ2 : (#[.int .i64 0, .int .i64 0, .int .i64 0, .slice none 0 0, .int .i64 0, .slice none 0 0, .int .i64 0, .slice none 0 0, .int .i64 0, .int .i64 0, .slice none 0 0, .slice none 0 0, .int .i64 0, .slice none 0 0, .slice none 0 0, .slice none 0 0, .slice none 0 0, .slice none 0 0, .slice none 0 0] : Array Value) = CZ := by rw [hCZ]; rfl
  have HC2 := hide hCZ2
  clear hR hs hZ hCZ hCZ2
  go_enter Tryz.func10, Tryz.ntmps10
  go_wp2_with fail
  try rw [HC2.out]
  try rw [HZ.out]
  generalize w.alloc (.cells CZ 42) = W1 at hB1 hb1 ⊢
  (with_reducible refine (HL.out W1 (HR.out W1 hB1)).mono ?_)
  rintro e W2 ⟨rfl, hB2⟩
  have hzl : Z < W1.heap.size := (Array.getElem?_eq_some_iff.1 hb1).1
  have hb2 := (hB2.block Z hzl).trans hb1
  have hB3 := hB1.trans (hB2.mono (Nat.le_of_lt hzl))
  clear hB1 hb1 hB2 hzl HL
  by_cases h0 : leE xs = 0
  · have hls : lsE xs = 0 := by
      refine Decidable.byContradiction fun h => ?_
      unfold leE at h0
      rw [if_pos h] at h0
      exact h h0
    have hl := lsE_len hls
    have HSm := hide (fun k (hk : k < xs.length) => lsE_same hls hk)
    have HE := hide h0
    obtain ⟨d, hd⟩ : ∃ d, leV xs = d := ⟨_, rfl⟩
    rw [h0, hd]
    have HD := hide hd
    have HB2 := hide hb2
    have HB3 := hide hB3
    clear h0 hls hd hb2 hB3
    go_wp2_with fail
    go_loopw [22] (fun iv wr => ∃ i q : Nat, i ≤ xs.length ∧ iv = .int .i64 i ∧ Hid (∃ m, m ≤ i + 1 ∧ NoB xs d i m) ∧ wr = W2.drewN q) (fun iv _ => xs.length - (intOf iv).toNat)
    case atStart => exact ⟨0, 0, Nat.zero_le _, rfl, hide ⟨1, Nat.le_refl _, NoB.zero xs d⟩, rfl⟩
    case round =>
      obtain ⟨i, q, hi, rfl, hno, rfl⟩ := hrel
      by_cases hlt : i < xs.length
      · have hRo := HR.out W2 HB3.out
        obtain ⟨b, o, rfl, hbl, hcell⟩ := hRo (by omega)
        have ci := hcell i hlt
        have hi0 : (0 : Int) ≤ (i : Int) := by omega
        have hi1 : (i : Int) < (xs.length : Int) := by omega
        have hgi : xs.getD i ⟨#[]⟩ = xs[i] := by simp [hlt]
        have hsi := HS.out _ (List.getElem_mem hlt)
        have hzi := HSm.out i hlt
        obtain ⟨x, hx⟩ : ∃ x, xs[i] = x := ⟨_, rfl⟩
        rw [hx] at ci hgi hsi hzi
        have HGi := hide hgi
        have HZi := hide hzi
        have HCell := hide hcell
        obtain ⟨m0, hm0, hno2⟩ := hno.out
        have HN0 := hide (show NoB xs d i (i + 1) from fun i' k' h1 h2 h3 => by
          by_cases e : i' < i
          · exact hno2 i' k' h1 h2 (.inl e)
          · omega)
        clear hx hgi hzi hcell hRo hno hno2 hm0
        go_wp2_with fail
        go_loopw [8] (fun kv wr => ∃ k q : Nat, i < k ∧ k ≤ xs.length ∧ kv = .int .i64 k ∧ Hid (NoB xs d i k) ∧ wr = W2.drewN q) (fun kv _ => xs.length - (intOf kv).toNat)
        case atStart => exact ⟨i + 1, q, by omega, hlt, by go_num, HN0, rfl⟩
        case round =>
          clear HN0 ci
          obtain ⟨k, q, hik, hk, rfl, hno, rfl⟩ := hrel
          by_cases hkl : k < xs.length
          · have ck := HCell.out k hkl
            have hk0 : (0 : Int) ≤ (k : Int) := by omega
            have hk1 : (k : Int) < (xs.length : Int) := by omega
            have hgk : xs.getD k ⟨#[]⟩ = xs[k] := by simp [hkl]
            have hzk := HSm.out k hkl
            obtain ⟨y, hy⟩ : ∃ y, xs[k] = y := ⟨_, rfl⟩
            rw [hy] at ck hgk hzk
            have HC := hide (fun W => dsHam_any x y W (HZi.out.trans hzk.symm) hsi)
            have HGk := hide hgk
            obtain ⟨h, hh⟩ : ∃ h, ham x y = h := ⟨_, rfl⟩
            rw [hh] at HC
            have HH := hide hh
            clear hy hgk hzk hh
            go_wp2_with fail
            (with_reducible refine (HC.out _).mono ?_)
            rintro e w3 ⟨rfl, q1, rfl⟩
            by_cases hhd : h = d
            · have hb4 : ((h : Int) == (d : Int)) = true := by rw [hhd]; simp
              have HF := hide (show FndB xs d i k from ⟨hik, hkl, by rw [HGi.out, HGk.out, HH.out, hhd], hno.out⟩)
              have hW : Below W2.heap.size W2 ((W2.drewN q).drewN q1) := belowN (belowN (Below.refl _ _) _) _
              have hb5 : ((W2.drewN q).drewN q1).heap[Z]? = some (.cells CZ 42 (0, 0)) := HB2.out
              clear hhd HC ck
              generalize (W2.drewN q).drewN q1 = W3 at hW hb5 ⊢
              have hzl : Z < W3.heap.size := (Array.getElem?_eq_some_iff.1 hb5).1
              have hb6 := (heap_alloc_old W3 (.cells #[.int .i64 (d : Nat), .int .i64 (i : Nat), .int .i64 (k : Nat)] 3) hzl).trans hb5
              have hI6 := heap_alloc_new W3 (.cells #[.int .i64 (d : Nat), .int .i64 (i : Nat), .int .i64 (k : Nat)] 3)
              have HI6 := hide hI6
              have HZL := hide hzl
              clear hI6 hzl hb5
              go_wp2_with (refine wpList_store_rowTo (by rfl) 42 _ _ (by rfl) (by rfl) Z (crtD (some ⟨b, o, none⟩) xs.length c W3.heap.size).cells (by rfl) (by rfl) 42 CZ hb6 (by kernel_rfl) hCs (by kernel_rfl) ?_)
              refine bodyPost_ret (ret_cert rfl _ _ Z _ rfl (setRow_heap _ _ CZ _ 42 (0, 0) hb6) rfl) rfl ?_
              refine ⟨.inr (.inr ⟨HE.out, i, k, W3.heap.size, by rw [HD.out]; exact HF.out, rfl, ?_⟩), ?_⟩
              · rw [HD.out]
                refine rowI3 (t := 3) ((setRow_other _ _ _ _ (by have := HZL.out; omega)).trans HI6.out)
              · rw [HZ.out]
                exact below_setRow ((HB3.out.trans (hW.mono (by rw [← HZ.out]; exact HB3.out.size))).alloc (by have := HZL.out; omega) _) (Nat.le_refl _) _
            · have hb4 : ((h : Int) == (d : Int)) = false := by rw [beq_eq_false_iff_ne]; omega
              have HN1 := hide (hno.out.step (by rw [HGi.out, HGk.out, HH.out]; exact hhd))
              clear hhd HC ck
              go_wp2
              go_roundw
              case rel => exact ⟨k + 1, q + q1, by omega, hkl, by go_num, HN1, by simp⟩
              case measure => simp [intOf]; omega
          · obtain rfl : k = xs.length := by omega
            have HN1 := hide (show ∃ m, m ≤ i + 1 + 1 ∧ NoB xs d (i + 1) m from ⟨i + 2, Nat.le_refl _, hno.out.row (Nat.le_refl _) (i + 2) (Nat.le_refl _)⟩)
            go_wp2
            go_roundw
            case rel => exact ⟨i + 1, q, hlt, by go_num, HN1, rfl⟩
            case measure => simp [intOf]; omega
      · obtain rfl : i = xs.length := by omega
        have hb5 : (W2.drewN q).heap[Z]? = some (.cells CZ 42 (0, 0)) := HB2.out
        go_wp2_with (refine wpList_store_rowTo (by rfl) 42 _ _ (by rfl) (by rfl) Z (Crt.nil 0).cells (by rfl) (by rfl) 42 CZ hb5 (by kernel_rfl) hCs (by kernel_rfl) ?_)
        refine bodyPost_ret (ret_cert rfl _ _ Z _ rfl (setRow_heap _ _ CZ _ 42 (0, 0) hb5) rfl) rfl ?_
        obtain ⟨m0, hm0, hno2⟩ := hno.out
        refine ⟨.inr (.inl ⟨HE.out, ⟨m0, by rw [HD.out]; exact hno2⟩, rfl⟩), ?_⟩
        rw [HZ.out]
        exact below_setRow (belowN HB3.out _) (Nat.le_refl _) _
  · obtain ⟨r, hr⟩ : ∃ r, leE xs = r := ⟨_, rfl⟩
    rw [hr] at h0 ⊢
    have hb4 : (r != 0) = true := by simpa using h0
    have HE := hide hr
    have HN := hide h0
    have HB3 := hide hB3
    clear hr h0 hB3
    go_wp2_with (refine wpList_store_rowTo (by rfl) 42 _ _ (by rfl) (by rfl) Z (Crt.nil 0).cells (by rfl) (by rfl) 42 CZ hb2 (by kernel_rfl) hCs (by kernel_rfl) ?_)
    refine bodyPost_ret (ret_cert rfl _ _ Z _ rfl (setRow_heap _ _ CZ _ 42 (0, 0) hb2) rfl) rfl ?_
    refine ⟨.inl ⟨by rw [HE.out]; exact HN.out, by rw [HE.out]; rfl⟩, ?_⟩
    rw [HZ.out]
    exact below_setRow HB3.out (Nat.le_refl _) _
end Go.Proofs.YtpppbkdbpbpinaaGreatDoor

/- grooveref59.none, Distance: their contracts. -/
set_option linter.unusedVariables false
namespace Go.Proofs.YtpppbkdbpbpinaaGreatDoor
open Go.RowKit Go.Shelf
set_option maxRecDepth 100000 in
set_option maxHeartbeats 2000000 in
theorem r59None_any (r : Int) (w : World) : Calls Tryz.prog 26 #[.int .i64 r] w fun e w' => e = .returned (.tuple #[.agg (Crt.nil 0).cells, .int .i64 r]) ∧ Below w.heap.size w w' := by
  have hB1 : Below w.heap.size w (w.alloc (.cells #[.int .i64 0, .int .i64 0, .int .i64 0, .slice none 0 0, .int .i64 0, .slice none 0 0, .int .i64 0, .slice none 0 0, .int .i64 0, .int .i64 0, .slice none 0 0, .slice none 0 0, .int .i64 0, .slice none 0 0, .slice none 0 0, .slice none 0 0, .slice none 0 0, .slice none 0 0, .slice none 0 0] 42)) := (Below.refl _ w).alloc (Nat.le_refl _) _
  have hb1 : (w.alloc (.cells #[.int .i64 0, .int .i64 0, .int .i64 0, .slice none 0 0, .int .i64 0, .slice none 0 0, .int .i64 0, .slice none 0 0, .int .i64 0, .int .i64 0, .slice none 0 0, .slice none 0 0, .int .i64 0, .slice none 0 0, .slice none 0 0, .slice none 0 0, .slice none 0 0, .slice none 0 0, .slice none 0 0] 42)).heap[w.heap.size]? = some (.cells (Crt.nil 0).cells 42 (0, 0)) := heap_alloc_new w _
  obtain ⟨CZ, hCZ⟩ : ∃ CZ : Array Value, CZ = (Crt.nil 0).cells := ⟨_, rfl⟩
  have hCs : CZ.size = 19 := by rw [hCZ]; rfl
  rw [← hCZ] at hb1
  have HB1 := hide hB1
  have Hb1 := hide hb1
  clear hCZ hB1 hb1
  go_enter Tryz.func26, Tryz.ntmps26
  go_wp2_with (refine wpList_store_rowTo (by rfl) 42 _ _ (by rfl) (by rfl) w.heap.size (Crt.nil 0).cells (by rfl) (by rfl) 42 CZ Hb1.out (by kernel_rfl) hCs (by kernel_rfl) ?_)
  refine bodyPost_ret (ret_cert rfl _ _ w.heap.size _ rfl (setRow_heap _ _ CZ _ 42 (0, 0) Hb1.out) rfl) rfl ?_
  exact ⟨rfl, below_setRow HB1.out (Nat.le_refl _) _⟩
set_option maxRecDepth 100000 in
set_option maxHeartbeats 4000000 in
theorem r59Dist_any (xs : List ByteArray) (A : Option Addr) (c : Nat) (w : World) (hR : RowT w A xs) (hb : xs.length ≤ 9223372036854775807) (hs : ∀ x ∈ xs, x.size ≤ 4294967296) :
    Calls Tryz.prog 11 #[.slice A xs.length c] w fun e w' => DisP xs A c w' e ∧ Below w.heap.size w w' := by
  obtain ⟨Z, hZ⟩ : ∃ Z, w.heap.size = Z := ⟨_, rfl⟩
  have HL := hide (fun W (h : RowT W A xs) => (rdLeast_any xs A c W h hb hs).mono fun e w' (h : _ ∧ _) => show e = .returned (.tuple #[.int .i64 (leV xs : Nat), .int .i64 (leE xs)]) ∧ Below W.heap.size W w' from ⟨h.1, by obtain ⟨q, hq⟩ := h.2; rw [hq]; exact belowN (Below.refl _ _) q⟩)
  have HNn := hide (fun r W => r59None_any r W)
  have HR := hide (fun W (h : Below Z w W) => hR.below (hZ ▸ h : Below w.heap.size w W))
  have HS := hide hs
  have hB1 : Below Z w (w.alloc (.cells (Crt.nil 0).cells 42)) := by rw [← hZ]; exact (Below.refl _ w).alloc (Nat.le_refl _) _
  have hb1 : (w.alloc (.cells (Crt.nil 0).cells 42)).heap[Z]? = some (.cells (Crt.nil 0).cells 42 (0, 0)) := hZ ▸ heap_alloc_new w _
  have HZ := hide hZ
  obtain ⟨CZ, hCZ⟩ : ∃ CZ : Array Value, CZ = (Crt.nil 0).cells := ⟨_, rfl⟩
  have HCz := hide hCZ
  have hCs : CZ.size = 19 := by rw [hCZ]; rfl
  rw [← hCZ] at hB1 hb1
  have hCZ2 : (#[.int .i64 0, .int .i64 0, .int .i64 0, .slice none 0 0, .int .i64 0, .slice none 0 0, .int .i64 0, .slice none 0 0, .int .i64 0, .int .i64 0, .slice none 0 0, .slice none 0 0, .int .i64 0, .slice none 0 0, .slice none 0 0, .slice none 0 0, .slice none 0 0, .slice none 0 0, .slice none 0 0] : Array Value) = CZ := by rw [hCZ]; rfl
  have HC2 := hide hCZ2
  clear hR hs hZ hCZ hCZ2
  go_enter Tryz.func11, Tryz.ntmps11
  go_wp2_with fail
  try rw [HC2.out]
  try rw [HZ.out]
  generalize w.alloc (.cells CZ 42) = W1 at hB1 hb1 ⊢
  (with_reducible refine (HL.out W1 (HR.out W1 hB1)).mono ?_)
  rintro e W2 ⟨rfl, hB2⟩
  have hzl : Z < W1.heap.size := (Array.getElem?_eq_some_iff.1 hb1).1
  have hb2 := (hB2.block Z hzl).trans hb1
  have hB3 := hB1.trans (hB2.mono (Nat.le_of_lt hzl))
  clear hB1 hb1 hB2 hzl HL
  by_cases h0 : leE xs = 0
  · have hls : lsE xs = 0 := by
      refine Decidable.byContradiction fun h => ?_
      unfold leE at h0
      rw [if_pos h] at h0
      exact h h0
    have hl := lsE_len hls
    have HSm := hide (fun k (hk : k < xs.length) => lsE_same hls hk)
    have HE := hide h0
    obtain ⟨d, hd⟩ : ∃ d, leV xs = d := ⟨_, rfl⟩
    rw [h0, hd]
    have HD := hide hd
    have HB2 := hide hb2
    have HB3 := hide hB3
    clear h0 hls hd hb2 hB3
    go_wp2_with fail
    go_loopw [6] (fun iv wr => ∃ i q : Nat, i ≤ xs.length ∧ iv = .int .i64 i ∧ Hid (∃ m, m ≤ i + 1 ∧ NoB xs d i m) ∧ wr = W2.drewN q) (fun iv _ => xs.length - (intOf iv).toNat)
    case atStart => exact ⟨0, 0, Nat.zero_le _, rfl, hide ⟨1, Nat.le_refl _, NoB.zero xs d⟩, rfl⟩
    case round =>
      obtain ⟨i, q, hi, rfl, hno, rfl⟩ := hrel
      by_cases hlt : i < xs.length
      · have hRo := HR.out W2 HB3.out
        obtain ⟨b, o, rfl, hbl, hcell⟩ := hRo (by omega)
        have ci := hcell i hlt
        have hi0 : (0 : Int) ≤ (i : Int) := by omega
        have hi1 : (i : Int) < (xs.length : Int) := by omega
        have hgi : xs.getD i ⟨#[]⟩ = xs[i] := by simp [hlt]
        have hsi := HS.out _ (List.getElem_mem hlt)
        have hzi := HSm.out i hlt
        obtain ⟨x, hx⟩ : ∃ x, xs[i] = x := ⟨_, rfl⟩
        rw [hx] at ci hgi hsi hzi
        have HGi := hide hgi
        have HZi := hide hzi
        have HCell := hide hcell
        obtain ⟨m0, hm0, hno2⟩ := hno.out
        have HN0 := hide (show NoB xs d i (i + 1) from fun i' k' h1 h2 h3 => by
          by_cases e : i' < i
          · exact hno2 i' k' h1 h2 (.inl e)
          · omega)
        clear hx hgi hzi hcell hRo hno hno2 hm0
        go_wp2_with fail
        go_loopw [7] (fun kv wr => ∃ k q : Nat, i < k ∧ k ≤ xs.length ∧ kv = .int .i64 k ∧ Hid (NoB xs d i k) ∧ wr = W2.drewN q) (fun kv _ => xs.length - (intOf kv).toNat)
        case atStart => exact ⟨i + 1, q, by omega, hlt, by go_num, HN0, rfl⟩
        case round =>
          clear HN0
          obtain ⟨k, q, hik, hk, rfl, hno, rfl⟩ := hrel
          by_cases hkl : k < xs.length
          · have ck := HCell.out k hkl
            have hk0 : (0 : Int) ≤ (k : Int) := by omega
            have hk1 : (k : Int) < (xs.length : Int) := by omega
            have hgk : xs.getD k ⟨#[]⟩ = xs[k] := by simp [hkl]
            have hzk := HSm.out k hkl
            obtain ⟨y, hy⟩ : ∃ y, xs[k] = y := ⟨_, rfl⟩
            rw [hy] at ck hgk hzk
            have HC := hide (fun m => quiet_mo (rdHam_any x y (W2.drewN (q + m)) (HZi.out.trans hzk.symm) hsi))
            have HGk := hide hgk
            obtain ⟨h, hh⟩ : ∃ h, ham x y = h := ⟨_, rfl⟩
            rw [hh] at HC
            have HH := hide hh
            clear hy hgk hzk hh
            go_wp2_with fail
            go_quiet ((go_at_call 31; exact HC.out _))
            by_cases hhd : h = d
            · have hb4 : ((h : Int) == (d : Int)) = true := by rw [hhd]; simp
              have HF := hide (show FndB xs d i k from ⟨hik, hkl, by rw [HGi.out, HGk.out, HH.out, hhd], hno.out⟩)
              have hW : Below W2.heap.size W2 ((W2.drewN q).drewN nq) := belowN (belowN (Below.refl _ _) _) _
              have hb5 : ((W2.drewN q).drewN nq).heap[Z]? = some (.cells CZ 42 (0, 0)) := HB2.out
              clear hhd HC ck
              generalize (W2.drewN q).drewN nq = W3 at hW hb5 ⊢
              have hzl : Z < W3.heap.size := (Array.getElem?_eq_some_iff.1 hb5).1
              have hb6 := (heap_alloc_old W3 (.cells #[.int .i64 (d : Nat), .int .i64 (i : Nat), .int .i64 (k : Nat)] 3) hzl).trans hb5
              have hI6 := heap_alloc_new W3 (.cells #[.int .i64 (d : Nat), .int .i64 (i : Nat), .int .i64 (k : Nat)] 3)
              have HI6 := hide hI6
              have HZL := hide hzl
              clear hI6 hzl hb5
              go_wp2_with (refine wpList_store_rowTo (by rfl) 42 _ _ (by rfl) (by rfl) Z (crtD (some ⟨b, o, none⟩) xs.length c W3.heap.size).cells (by rfl) (by rfl) 42 CZ hb6 (by kernel_rfl) hCs (by kernel_rfl) ?_)
              refine bodyPost_ret (ret_cert rfl _ _ Z _ rfl (setRow_heap _ _ CZ _ 42 (0, 0) hb6) rfl) rfl ?_
              refine ⟨.inr (.inr ⟨HE.out, i, k, W3.heap.size, by rw [HD.out]; exact HF.out, rfl, ?_⟩), ?_⟩
              · rw [HD.out]
                refine rowI3 (t := 3) ((setRow_other _ _ _ _ (by have := HZL.out; omega)).trans HI6.out)
              · rw [HZ.out]
                exact below_setRow ((HB3.out.trans (hW.mono (by rw [← HZ.out]; exact HB3.out.size))).alloc (by have := HZL.out; omega) _) (Nat.le_refl _) _
            · have hb4 : ((h : Int) == (d : Int)) = false := by rw [beq_eq_false_iff_ne]; omega
              have HN1 := hide (hno.out.step (by rw [HGi.out, HGk.out, HH.out]; exact hhd))
              clear hhd HC ck
              go_wp2
              go_roundw
              case rel => exact ⟨k + 1, q + nq, by omega, hkl, by go_num, HN1, by simp⟩
              case measure => simp [intOf]; omega
          · obtain rfl : k = xs.length := by omega
            have HN1 := hide (show ∃ m, m ≤ i + 1 + 1 ∧ NoB xs d (i + 1) m from ⟨i + 2, Nat.le_refl _, hno.out.row (Nat.le_refl _) (i + 2) (Nat.le_refl _)⟩)
            go_wp2
            go_roundw
            case rel => exact ⟨i + 1, q, hlt, by go_num, HN1, rfl⟩
            case measure => simp [intOf]; omega
      · obtain rfl : i = xs.length := by omega
        have hb5 : (W2.drewN q).heap[Z]? = some (.cells CZ 42 (0, 0)) := HB2.out
        have hB7 : Below Z w (W2.drewN q) := belowN HB3.out _
        generalize W2.drewN q = W5 at hb5 hB7 ⊢
        have HB7 := hide hB7
        clear hB7
        go_wp2_with fail
        (with_reducible refine (HNn.out _ _).mono ?_)
        rintro e W6 ⟨rfl, hB6⟩
        have hzl : Z < W5.heap.size := (Array.getElem?_eq_some_iff.1 hb5).1
        have hb6 := (hB6.block Z hzl).trans hb5
        have HB6 := hide (HB7.out.trans (hB6.mono (Nat.le_of_lt hzl)))
        clear hB6 hb5 hzl
        go_wp2_with (refine wpList_store_rowTo (by rfl) 42 _ _ (by rfl) (by rfl) Z (Crt.nil 0).cells (by rfl) (by rfl) 42 CZ hb6 (by kernel_rfl) hCs (by kernel_rfl) ?_)
        refine bodyPost_ret (ret_cert rfl _ _ Z _ rfl (setRow_heap _ _ CZ _ 42 (0, 0) hb6) rfl) rfl ?_
        obtain ⟨m0, hm0, hno2⟩ := hno.out
        refine ⟨.inr (.inl ⟨HE.out, ⟨m0, by rw [HD.out]; exact hno2⟩, rfl⟩), ?_⟩
        rw [HZ.out]
        exact below_setRow HB6.out (Nat.le_refl _) _
  · obtain ⟨r, hr⟩ : ∃ r, leE xs = r := ⟨_, rfl⟩
    rw [hr] at h0 ⊢
    have hb4 : (r != 0) = true := by simpa using h0
    have HE := hide hr
    have HN := hide h0
    have HB3 := hide hB3
    clear hr h0 hB3
    go_wp2_with fail
    (with_reducible refine (HNn.out _ _).mono ?_)
    rintro e W6 ⟨rfl, hB6⟩
    have hzl : Z < W2.heap.size := (Array.getElem?_eq_some_iff.1 hb2).1
    have hb6 := (hB6.block Z hzl).trans hb2
    have HB6 := hide (HB3.out.trans (hB6.mono (Nat.le_of_lt hzl)))
    clear hB6 hb2 hzl
    go_wp2_with (refine wpList_store_rowTo (by rfl) 42 _ _ (by rfl) (by rfl) Z (Crt.nil 0).cells (by rfl) (by rfl) 42 CZ hb6 (by kernel_rfl) hCs (by kernel_rfl) ?_)
    refine bodyPost_ret (ret_cert rfl _ _ Z _ rfl (setRow_heap _ _ CZ _ 42 (0, 0) hb6) rfl) rfl ?_
    refine ⟨.inl ⟨by rw [HE.out]; exact HN.out, by rw [HE.out]; rfl⟩, ?_⟩
    rw [HZ.out]
    exact below_setRow HB6.out (Nat.le_refl _) _
end Go.Proofs.YtpppbkdbpbpinaaGreatDoor
