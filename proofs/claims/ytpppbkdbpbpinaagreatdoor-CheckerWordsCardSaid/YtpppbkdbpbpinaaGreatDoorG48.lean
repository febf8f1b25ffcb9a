import Derived.Test.YtpppbkdbpbpinaaGreatDoorG11
import Derived.Test.YtpppbkdbpbpinaaGreatDoorG39
import Derived.Test.YtpppbkdbpbpinaaGreatDoorG47
set_option linter.unusedSimpArgs false
set_option linter.unusedVariables false
/- groovelaw59.CheckerWords: the law's walk (printed by wip/mk_l59w.py). -/
set_option linter.unusedVariables false
namespace Go.Proofs.YtpppbkdbpbpinaaGreatDoor
open Go.RowKit Go.Shelf
/-- a new block that takes a certificate -/
theorem crt_put (W : World) {CX : Array Value} (hs : CX.size = 19) : (W.alloc (.cells #[.int .i64 0, .int .i64 0, .int .i64 0, .slice none 0 0, .int .i64 0, .slice none 0 0, .int .i64 0, .slice none 0 0, .int .i64 0, .int .i64 0, .slice none 0 0, .slice none 0 0, .int .i64 0, .slice none 0 0, .slice none 0 0, .slice none 0 0, .slice none 0 0, .slice none 0 0, .slice none 0 0] 42)).heap[W.heap.size]? = some (.cells #[.int .i64 0, .int .i64 0, .int .i64 0, .slice none 0 0, .int .i64 0, .slice none 0 0, .int .i64 0, .slice none 0 0, .int .i64 0, .int .i64 0, .slice none 0 0, .slice none 0 0, .int .i64 0, .slice none 0 0, .slice none 0 0, .slice none 0 0, .slice none 0 0, .slice none 0 0, .slice none 0 0] 42 (0, 0)) ∧
    ((W.alloc (.cells #[.int .i64 0, .int .i64 0, .int .i64 0, .slice none 0 0, .int .i64 0, .slice none 0 0, .int .i64 0, .slice none 0 0, .int .i64 0, .int .i64 0, .slice none 0 0, .slice none 0 0, .int .i64 0, .slice none 0 0, .slice none 0 0, .slice none 0 0, .slice none 0 0, .slice none 0 0, .slice none 0 0] 42)).setRow W.heap.size CX).heap[W.heap.size]? = some (.cells CX 42 (0, 0)) ∧ Below W.heap.size W ((W.alloc (.cells #[.int .i64 0, .int .i64 0, .int .i64 0, .slice none 0 0, .int .i64 0, .slice none 0 0, .int .i64 0, .slice none 0 0, .int .i64 0, .int .i64 0, .slice none 0 0, .slice none 0 0, .int .i64 0, .slice none 0 0, .slice none 0 0, .slice none 0 0, .slice none 0 0, .slice none 0 0, .slice none 0 0] 42)).setRow W.heap.size CX) ∧ W.heap.size < ((W.alloc (.cells #[.int .i64 0, .int .i64 0, .int .i64 0, .slice none 0 0, .int .i64 0, .slice none 0 0, .int .i64 0, .slice none 0 0, .int .i64 0, .int .i64 0, .slice none 0 0, .slice none 0 0, .int .i64 0, .slice none 0 0, .slice none 0 0, .slice none 0 0, .slice none 0 0, .slice none 0 0, .slice none 0 0] 42)).setRow W.heap.size CX).heap.size := by
  have h1 := heap_alloc_new W (.cells #[.int .i64 0, .int .i64 0, .int .i64 0, .slice none 0 0, .int .i64 0, .slice none 0 0, .int .i64 0, .slice none 0 0, .int .i64 0, .int .i64 0, .slice none 0 0, .slice none 0 0, .int .i64 0, .slice none 0 0, .slice none 0 0, .slice none 0 0, .slice none 0 0, .slice none 0 0, .slice none 0 0] 42)
  refine ⟨h1, setRow_heap _ _ _ _ 42 (0, 0) h1, below_setRow ((Below.refl _ W).alloc (Nat.le_refl _) _) (Nat.le_refl _) _, ?_⟩
  rw [setRow_size]; simp
set_option maxRecDepth 100000 in
set_option maxHeartbeats 4000000 in
/-- the law where nothing is too great -/
theorem words_main (L : Int) (rows : List (List Int)) (A X : Option Addr) (cc xc : Nat) (xs : List ByteArray) (w : World) (hR : RowD w A rows) (hT : TabZ w) (hX : RowT w X xs) (hb : rows.length ≤ 9223372036854775807) (hxb : xs.length ≤ 9223372036854775807)
    (hm : mch rows = true) (hl : xs.any badL = false) (hlen : ((decide (12 < xs.length) && decide (xs.length ≤ 4096)) || decide (4099 < xs.length)) = false) :
    Calls Tryz.prog 3 #[.agg #[.int .i64 L, .slice A rows.length cc], .slice X xs.length xc] w fun e w' => e = .returned (.bool true) ∧ Below w.heap.size w w' := by
  have hF : Fit L rows := mch_fit hm
  have hsz : ∀ x ∈ xs, x.size ≤ 4294967296 := fun x hx => by
    have := List.any_eq_false.1 hl x hx
    unfold badL at this
    simp at this
    omega
  have hrl : layE L rows = 0 → ∀ x ∈ rows, x.length ≤ 9223372036854775807 := fun h0 x hx => by
    have hc : chkA L rows = 0 := by
      refine Decidable.byContradiction fun h => ?_
      unfold layE at h0
      rw [if_neg h] at h0
      cases h0
    unfold chkA at hc
    by_cases c1 : L < 1 ∨ 8 < L
    · rw [if_pos c1] at hc; cases hc
    rw [if_neg c1] at hc
    by_cases c2 : rows.length = 0
    · rw [if_pos c2] at hc; cases hc
    rw [if_neg c2] at hc
    by_cases c3 : 16 < rows.length
    · rw [if_pos c3] at hc; cases hc
    rw [if_neg c3] at hc
    have h3 := chkRows_all hc _ hx
    unfold chkRow at h3
    by_cases c4 : x.length ≠ L.toNat
    · rw [if_pos c4] at h3; cases h3
    · omega
  obtain ⟨Z, hZ⟩ : ∃ Z, w.heap.size = Z := ⟨_, rfl⟩
  have lf : ∀ W, Below Z w W → Below w.heap.size w W := fun W h => hZ ▸ h
  have HM := hide (fun W (h : Below Z w W) => hm ▸ machine_any L rows A cc W (hR.below (lf W h)) hb)
  have HC := hide (fun W (h : Below Z w W) => hl ▸ cfLen_any xs X xc W (hX.below (lf W h)) hxb)
  have HR1 := hide (fun W (h : Below Z w W) => ckReset_any L rows A cc W hF (hR.below (lf W h)) (hT.below (lf W h)) hb)
  have HR2 := hide (fun W (h : Below Z w W) => r59Reset_any L rows A cc W hF (hR.below (lf W h)) (hT.below (lf W h)) hb)
  have HD1 := hide (fun W (h : Below Z w W) => ckDist_any xs X xc W (hX.below (lf W h)) hxb hsz)
  have HD2 := hide (fun W (h : Below Z w W) => r59Dist_any xs X xc W (hX.below (lf W h)) hxb hsz)
  have HAw := hide (fun W => awake59_any W)
  have HRS := hide (fun W (h : Below Z w W) => hR.below (lf W h))
  have HXS := hide (fun W (h : Below Z w W) => hX.below (lf W h))
  have HRL := hide hrl
  have HB := hide hb
  have HXB := hide hxb
  have e1 : decide ((12 : Int) < (xs.length : Int)) = decide (12 < xs.length) := by simp only [decide_eq_decide]; omega
  have e2 : decide ((xs.length : Int) ≤ 4096) = decide (xs.length ≤ 4096) := by simp only [decide_eq_decide]; omega
  have e3 : decide ((4099 : Int) < (xs.length : Int)) = decide (4099 < xs.length) := by simp only [decide_eq_decide]; omega
  obtain ⟨n, hn⟩ : ∃ n, rows.length = n := ⟨_, rfl⟩
  obtain ⟨m, hmm⟩ : ∃ m, xs.length = m := ⟨_, rfl⟩
  rw [hn] at HM HR1 HR2 ⊢
  rw [hmm] at HC HD1 HD2 hlen e1 e2 e3 ⊢
  have hB0 : Below Z w (w.alloc (.cells #[.int .i64 L, .slice A n cc] 24)) := by rw [← hZ]; exact (Below.refl _ w).alloc (Nat.le_refl _) _
  have hA0 : (w.alloc (.cells #[.int .i64 L, .slice A n cc] 24)).heap[Z]? = some (.cells #[.int .i64 L, .slice A n cc] 24 (0, 0)) := hZ ▸ heap_alloc_new w _
  have HZ := hide hZ
  clear hF hsz hrl hZ lf hR hT hX hb hxb hm hl hn hmm
  have hl3 : decide (4099 < m) = false := by
    cases h : decide (4099 < m)
    · rfl
    · rw [h] at hlen; simp at hlen
  have hl1 : decide (12 < m) = false ∨ (decide (12 < m) = true ∧ decide (m ≤ 4096) = false) := by
    cases h1 : decide (12 < m)
    · exact .inl rfl
    · right
      cases h2 : decide (m ≤ 4096)
      · exact ⟨rfl, rfl⟩
      · rw [h1, h2] at hlen; simp at hlen
  rw [hl3] at e3
  clear hlen hl3
  have tail : ∀ W1, Below Z w W1 → W1.heap[Z]? = some (.cells #[.int .i64 L, .slice A n cc] 24 (0, 0)) → True := fun _ _ _ => trivial
  clear tail
  rcases hl1 with h1 | ⟨h1, h2⟩
  all_goals
    rw [h1] at e1
    try rw [h2] at e2
    clear h1
    try clear h2
    go_enter Tryz.func3, Tryz.ntmps3
    go_wp2_with (fail)
    try rw [HZ.out]
    generalize (w.alloc (.cells #[.int .i64 L, .slice A n cc] 24)) = W0 at hB0 hA0 ⊢
    have hz0 : Z < W0.heap.size := (Array.getElem?_eq_some_iff.1 hA0).1
    (with_reducible refine (HM.out W0 hB0).mono ?_)
    rintro e W1 ⟨rfl, hb1⟩
    have hA1 := (hb1.block Z hz0).trans hA0
    have hB1 := hB0.trans (hb1.mono (by omega))
    have hz1 : Z < W1.heap.size := (Array.getElem?_eq_some_iff.1 hA1).1
    have a0 : W1.cell? ⟨Z, 0, none⟩ = some (.int .i64 L) := (cell_of_row _ _ 0 _ _ _ hA1).trans rfl
    have a1 : W1.cell? ⟨Z, 1, none⟩ = some (.slice A n cc) := (cell_of_row _ _ 1 _ _ _ hA1).trans rfl
    clear hB0 hA0 hb1 hz0
    go_wp2_with (fail)
    (with_reducible refine (HC.out W1 hB1).mono ?_)
    rintro e w' ⟨rfl, rfl⟩
    go_wp2_with (fail)
    (with_reducible refine (HR1.out W1 hB1).mono ?_)
    rintro e W2 ⟨hP1, hb2⟩
    obtain ⟨C1, r1, hc1⟩ := hP1.form
    have HP1 := hide hP1
    have HC1 := hide hc1
    obtain ⟨rfl, hs1, ho1⟩ := hc1
    have hA2 := (hb2.block Z hz1).trans hA1
    have hB2 := hB1.trans (hb2.mono (by omega))
    have hz2 : Z < W2.heap.size := (Array.getElem?_eq_some_iff.1 hA2).1
    clear hP1 hA1 hB1 hz1 a0 a1 hb2
    have HB2 := hide hB2
    obtain ⟨p2, q2, k2, l2⟩ := crt_put W2 hs1
    obtain ⟨N1, hN1⟩ : ∃ N, W2.heap.size = N := ⟨_, rfl⟩
    have HN1 := hide hN1
    have i2 : (Tryz.prog.info? 42).map (·.size) = some C1.size := by rw [hs1]; exact certSize
    rw [hN1] at q2 k2 l2
    have zn2 : Z < N1 := by rw [← hN1]; exact hz2
    clear hN1
    go_wp2_with (refine wpList_store_rowTo (by rfl) 42 _ _ (by rfl) (by rfl) W2.heap.size C1 (by rfl) (by rfl) 42 #[.int .i64 0, .int .i64 0, .int .i64 0, .slice none 0 0, .int .i64 0, .slice none 0 0, .int .i64 0, .slice none 0 0, .int .i64 0, .int .i64 0, .slice none 0 0, .slice none 0 0, .int .i64 0, .slice none 0 0, .slice none 0 0, .slice none 0 0, .slice none 0 0, .slice none 0 0, .slice none 0 0] p2 i2 (by rw [hs1]; rfl) ho1 ?_; rw [HN1.out]; generalize (W2.alloc (.cells #[.int .i64 0, .int .i64 0, .int .i64 0, .slice none 0 0, .int .i64 0, .slice none 0 0, .int .i64 0, .slice none 0 0, .int .i64 0, .int .i64 0, .slice none 0 0, .slice none 0 0, .int .i64 0, .slice none 0 0, .slice none 0 0, .slice none 0 0, .slice none 0 0, .slice none 0 0, .slice none 0 0] 42)).setRow N1 C1 = V2 at q2 k2 l2 ⊢; have hA2v := (k2.block Z zn2).trans hA2; have a0 : V2.cell? ⟨Z, 0, none⟩ = some (.int .i64 L) := (cell_of_row _ _ 0 _ _ _ hA2v).trans rfl; have a1 : V2.cell? ⟨Z, 1, none⟩ = some (.slice A n cc) := (cell_of_row _ _ 1 _ _ _ hA2v).trans rfl)
    have hB2v := hB2.trans (k2.mono (Nat.le_of_lt zn2))
    have HK2 := hide k2
    clear hA2 hB2 hz2 p2 i2 k2 zn2 
    have iiC1 : (Tryz.prog.info? 42).map (·.size) = some C1.size := by rw [hs1]; exact certSize
    (with_reducible refine (HR2.out V2 hB2v).mono ?_)
    rintro e W3 ⟨hP, hb⟩
    obtain ⟨C2, r2, hc⟩ := hP.form
    have HP2 := hide hP
    have HCC2 := hide hc
    obtain ⟨rfl, hsC2, hoC2⟩ := hc
    have hzv : Z < V2.heap.size := (Array.getElem?_eq_some_iff.1 hA2v).1
    have hA3 := (hb.block Z hzv).trans hA2v
    have hB3 := hB2v.trans (hb.mono (Nat.le_of_lt hzv))
    have HS3 := hide hb
    have hz3 : Z < W3.heap.size := (Array.getElem?_eq_some_iff.1 hA3).1
    have f3N1 := (hb.block N1 l2).trans q2
    clear hP hb hzv hA2v hB2v q2 l2 a0 a1 
    have iiC2 : (Tryz.prog.info? 42).map (·.size) = some C2.size := by rw [hsC2]; exact certSize
    obtain ⟨p3, q3, k3, l3⟩ := crt_put W3 hsC2
    obtain ⟨N2, hN2⟩ : ∃ N, W3.heap.size = N := ⟨_, rfl⟩
    have HN2 := hide hN2
    have i3 : (Tryz.prog.info? 42).map (·.size) = some C2.size := by rw [hsC2]; exact certSize
    rw [hN2] at q3 k3 l3
    have zn3 : Z < N2 := by rw [← hN2]; exact hz3
    have nn3N1 : N1 < N2 := by rw [← hN2]; exact (Array.getElem?_eq_some_iff.1 f3N1).1
    clear hN2
    go_wp2_with (refine wpList_store_rowTo (by rfl) 42 _ _ (by rfl) (by rfl) W3.heap.size C2 (by rfl) (by rfl) 42 #[.int .i64 0, .int .i64 0, .int .i64 0, .slice none 0 0, .int .i64 0, .slice none 0 0, .int .i64 0, .slice none 0 0, .int .i64 0, .int .i64 0, .slice none 0 0, .slice none 0 0, .int .i64 0, .slice none 0 0, .slice none 0 0, .slice none 0 0, .slice none 0 0, .slice none 0 0, .slice none 0 0] p3 i3 (by rw [hsC2]; rfl) hoC2 ?_; rw [HN2.out]; generalize (W3.alloc (.cells #[.int .i64 0, .int .i64 0, .int .i64 0, .slice none 0 0, .int .i64 0, .slice none 0 0, .int .i64 0, .slice none 0 0, .int .i64 0, .int .i64 0, .slice none 0 0, .slice none 0 0, .int .i64 0, .slice none 0 0, .slice none 0 0, .slice none 0 0, .slice none 0 0, .slice none 0 0, .slice none 0 0] 42)).setRow N2 C2 = V3 at q3 k3 l3 ⊢; have hA3v := (k3.block Z zn3).trans hA3; have g3N1 := (k3.block N1 nn3N1).trans f3N1)
    have hB3v := hB3.trans (k3.mono (Nat.le_of_lt zn3))
    have HK3 := hide k3
    clear hA3 hB3 hz3 p3 i3 k3 zn3 f3N1 nn3N1
    (with_reducible refine (HD1.out V3 hB3v).mono ?_)
    rintro e W4 ⟨hP, hb⟩
    obtain ⟨C3, r3, hc⟩ := hP.form
    have HP3 := hide hP
    have HCC3 := hide hc
    obtain ⟨rfl, hsC3, hoC3⟩ := hc
    have hzv : Z < V3.heap.size := (Array.getElem?_eq_some_iff.1 hA3v).1
    have hA4 := (hb.block Z hzv).trans hA3v
    have hB4 := hB3v.trans (hb.mono (Nat.le_of_lt hzv))
    have HS4 := hide hb
    have hz4 : Z < W4.heap.size := (Array.getElem?_eq_some_iff.1 hA4).1
    have f4N1 := (hb.block N1 (Array.getElem?_eq_some_iff.1 g3N1).1).trans g3N1
    have f4N2 := (hb.block N2 l3).trans q3
    clear hP hb hzv hA3v hB3v q3 l3 g3N1
    have iiC3 : (Tryz.prog.info? 42).map (·.size) = some C3.size := by rw [hsC3]; exact certSize
    have HB4 := hide hB4
    have HN3lt := hide hz4
    obtain ⟨p4, q4, k4, l4⟩ := crt_put W4 hsC3
    obtain ⟨N3, hN3⟩ : ∃ N, W4.heap.size = N := ⟨_, rfl⟩
    have HN3 := hide hN3
    have i4 : (Tryz.prog.info? 42).map (·.size) = some C3.size := by rw [hsC3]; exact certSize
    rw [hN3] at q4 k4 l4
    have zn4 : Z < N3 := by rw [← hN3]; exact hz4
    have nn4N1 : N1 < N3 := by rw [← hN3]; exact (Array.getElem?_eq_some_iff.1 f4N1).1
    have nn4N2 : N2 < N3 := by rw [← hN3]; exact (Array.getElem?_eq_some_iff.1 f4N2).1
    clear hN3
    go_wp2_with (refine wpList_store_rowTo (by rfl) 42 _ _ (by rfl) (by rfl) W4.heap.size C3 (by rfl) (by rfl) 42 #[.int .i64 0, .int .i64 0, .int .i64 0, .slice none 0 0, .int .i64 0, .slice none 0 0, .int .i64 0, .slice none 0 0, .int .i64 0, .int .i64 0, .slice none 0 0, .slice none 0 0, .int .i64 0, .slice none 0 0, .slice none 0 0, .slice none 0 0, .slice none 0 0, .slice none 0 0, .slice none 0 0] p4 i4 (by rw [hsC3]; rfl) hoC3 ?_; rw [HN3.out]; generalize (W4.alloc (.cells #[.int .i64 0, .int .i64 0, .int .i64 0, .slice none 0 0, .int .i64 0, .slice none 0 0, .int .i64 0, .slice none 0 0, .int .i64 0, .int .i64 0, .slice none 0 0, .slice none 0 0, .int .i64 0, .slice none 0 0, .slice none 0 0, .slice none 0 0, .slice none 0 0, .slice none 0 0, .slice none 0 0] 42)).setRow N3 C3 = V4 at q4 k4 l4 ⊢; have hA4v := (k4.block Z zn4).trans hA4; have g4N1 := (k4.block N1 nn4N1).trans f4N1; have g4N2 := (k4.block N2 nn4N2).trans f4N2)
    have hB4v := hB4.trans (k4.mono (Nat.le_of_lt zn4))
    have HK4 := hide k4
    clear hA4 hB4 hz4 p4 i4 k4 zn4 f4N1 nn4N1 f4N2 nn4N2
    (with_reducible refine (HD2.out V4 hB4v).mono ?_)
    rintro e W5 ⟨hP, hb⟩
    obtain ⟨C4, r4, hc⟩ := hP.form
    have HP4 := hide hP
    have HCC4 := hide hc
    obtain ⟨rfl, hsC4, hoC4⟩ := hc
    have hzv : Z < V4.heap.size := (Array.getElem?_eq_some_iff.1 hA4v).1
    have hA5 := (hb.block Z hzv).trans hA4v
    have hB5 := hB4v.trans (hb.mono (Nat.le_of_lt hzv))
    have HS5 := hide hb
    have hz5 : Z < W5.heap.size := (Array.getElem?_eq_some_iff.1 hA5).1
    have f5N1 := (hb.block N1 (Array.getElem?_eq_some_iff.1 g4N1).1).trans g4N1
    have f5N2 := (hb.block N2 (Array.getElem?_eq_some_iff.1 g4N2).1).trans g4N2
    have f5N3 := (hb.block N3 l4).trans q4
    clear hP hb hzv hA4v hB4v q4 l4 g4N1 g4N2
    have iiC4 : (Tryz.prog.info? 42).map (·.size) = some C4.size := by rw [hsC4]; exact certSize
    obtain ⟨p5, q5, k5, l5⟩ := crt_put W5 hsC4
    obtain ⟨N4, hN4⟩ : ∃ N, W5.heap.size = N := ⟨_, rfl⟩
    have HN4 := hide hN4
    have i5 : (Tryz.prog.info? 42).map (·.size) = some C4.size := by rw [hsC4]; exact certSize
    rw [hN4] at q5 k5 l5
    have zn5 : Z < N4 := by rw [← hN4]; exact hz5
    have nn5N1 : N1 < N4 := by rw [← hN4]; exact (Array.getElem?_eq_some_iff.1 f5N1).1
    have nn5N2 : N2 < N4 := by rw [← hN4]; exact (Array.getElem?_eq_some_iff.1 f5N2).1
    have nn5N3 : N3 < N4 := by rw [← hN4]; exact (Array.getElem?_eq_some_iff.1 f5N3).1
    clear hN4
    go_wp2_with (first
      | (refine wpList_store_rowTo (by rfl) 42 _ _ (by rfl) (by rfl) W5.heap.size C4 (by rfl) (by rfl) 42 #[.int .i64 0, .int .i64 0, .int .i64 0, .slice none 0 0, .int .i64 0, .slice none 0 0, .int .i64 0, .slice none 0 0, .int .i64 0, .int .i64 0, .slice none 0 0, .slice none 0 0, .int .i64 0, .slice none 0 0, .slice none 0 0, .slice none 0 0, .slice none 0 0, .slice none 0 0, .slice none 0 0] p5 i5 (by rw [hsC4]; rfl) hoC4 ?_; rw [HN4.out]; generalize (W5.alloc (.cells #[.int .i64 0, .int .i64 0, .int .i64 0, .slice none 0 0, .int .i64 0, .slice none 0 0, .int .i64 0, .slice none 0 0, .int .i64 0, .int .i64 0, .slice none 0 0, .slice none 0 0, .int .i64 0, .slice none 0 0, .slice none 0 0, .slice none 0 0, .slice none 0 0, .slice none 0 0, .slice none 0 0] 42)).setRow N4 C4 = V5 at q5 k5 l5 ⊢; have hA5v := (k5.block Z zn5).trans hA5; have g5N1 := (k5.block N1 nn5N1).trans f5N1; have g5N2 := (k5.block N2 nn5N2).trans f5N2; have g5N3 := (k5.block N3 nn5N3).trans f5N3)
      | (refine wpList_load_rowG (by rfl) 42 _ (by rfl) N1 (by rfl) 42 C1 (0, 0) _ g5N1 Tryz.underlying42 (by rfl) iiC1 ?_)
      | (refine wpList_load_rowG (by rfl) 42 _ (by rfl) N2 (by rfl) 42 C2 (0, 0) _ g5N2 Tryz.underlying42 (by rfl) iiC2 ?_))
    have hB5v := hB5.trans (k5.mono (Nat.le_of_lt zn5))
    have HK5 := hide k5
    clear hA5 hB5 hz5 p5 i5 k5 zn5 f5N1 nn5N1 f5N2 nn5N2 f5N3 nn5N3
    have s2 : Below W2.heap.size W2 V2 := by rw [HN1.out]; exact HK2.out
    have s3 := s2.trans (HS3.out.mono s2.size)
    have t3 : Below W3.heap.size W3 V3 := by rw [HN2.out]; exact HK3.out
    have t4 := t3.trans (HS4.out.mono t3.size)
    have u4 : Below W4.heap.size W4 V4 := by rw [HN3.out]; exact HK4.out
    have u5 := u4.trans (HS5.out.mono u4.size)
    have v5 : Below W5.heap.size W5 V5 := by rw [HN4.out]; exact HK5.out
    have u6 := u5.trans (v5.mono u5.size)
    have t6 := t4.trans (u6.mono t4.size)
    have s6 := s3.trans (t6.mono s3.size)
    obtain ⟨hr12, hsame⟩ := rst_same HP1.out HP2.out HC1.out HCC2.out (HRS.out W2 HB2.out) HB.out HRL.out
    obtain ⟨hr34, hsame2⟩ := dis_same HP3.out HP4.out HCC3.out HCC4.out (HXS.out W4 HB4.out) HXB.out
    have HSm := hide (hsame V5 s6 t6)
    have HSm2 := hide (fun W (h : Below V5.heap.size V5 W) => hsame2 W (u6.trans (h.mono u6.size)) (v5.trans (h.mono v5.size)))
    have b12 : (r1 == r2) = true := by rw [hr12]; simp
    have b34 : (r3 == r4) = true := by rw [hr34]; simp
    have HV5 := hide hB5v
    have hzv : Z < V5.heap.size := (Array.getElem?_eq_some_iff.1 hA5v).1
    have hn3 : N3 < V5.heap.size := (Array.getElem?_eq_some_iff.1 g5N3).1
    clear s2 s3 t3 t4 u4 u5 v5 u6 t6 s6 hr12 hr34 hsame hsame2 hB5v
    (with_reducible refine HSm.out.mono ?_)
    rintro e W6 ⟨rfl, hb6⟩
    have g6N3 := (hb6.block N3 hn3).trans g5N3
    have g6N4 := (hb6.block N4 l5).trans q5
    have hB6 := HV5.out.trans (hb6.mono (Nat.le_of_lt hzv))
    have HS6 := hide (HSm2.out W6 hb6)
    have hz6 : Z < W6.heap.size := Nat.lt_of_lt_of_le hzv hb6.size
    clear HSm HSm2 hb6 g5N1 g5N2 g5N3 q5 hA5v hzv hn3
    go_wp2_with (first
      | (refine wpList_load_rowG (by rfl) 42 _ (by rfl) N3 (by rfl) 42 C3 (0, 0) _ g6N3 Tryz.underlying42 (by rfl) iiC3 ?_)
      | (refine wpList_load_rowG (by rfl) 42 _ (by rfl) N4 (by rfl) 42 C4 (0, 0) _ g6N4 Tryz.underlying42 (by rfl) iiC4 ?_))
    (with_reducible refine HS6.out.mono ?_)
    rintro e W7 ⟨rfl, hb7⟩
    have hB7 := hB6.trans (hb7.mono (Nat.le_of_lt hz6))
    have hz7 : Z < W7.heap.size := Nat.lt_of_lt_of_le hz6 hb7.size
    clear g6N3 g6N4 hb7 hB6 hz6 HS6
    go_wp2_with (fail)
    (with_reducible refine (HAw.out W7).mono ?_)
    rintro e W8 ⟨rfl, hb8⟩
    have HE := hide (hB7.trans (hb8.mono (Nat.le_of_lt hz7)))
    clear hb8 hB7 hz7
    go_wp2_with (fail)
    go_ret
    exact ⟨rfl, by rw [HZ.out]; exact HE.out⟩
set_option maxRecDepth 100000 in
set_option maxHeartbeats 4000000 in
theorem lWords59_any (L : Int) (rows : List (List Int)) (A X : Option Addr) (cc xc : Nat) (xs : List ByteArray) (w : World) (hR : RowD w A rows) (hT : TabZ w) (hX : RowT w X xs) (hb : rows.length ≤ 9223372036854775807) (hxb : xs.length ≤ 9223372036854775807) :
    Calls Tryz.prog 3 #[.agg #[.int .i64 L, .slice A rows.length cc], .slice X xs.length xc] w fun e w' => e = .returned (.bool true) ∧ Below w.heap.size w w' := by
  by_cases hmain : mch rows = true ∧ ((decide (12 < xs.length) && decide (xs.length ≤ 4096)) || decide (4099 < xs.length)) = false ∧ xs.any badL = false
  · exact words_main L rows A X cc xc xs w hR hT hX hb hxb hmain.1 hmain.2.2 hmain.2.1
  obtain ⟨Z, hZ⟩ : ∃ Z, w.heap.size = Z := ⟨_, rfl⟩
  have lf : ∀ W, Below Z w W → Below w.heap.size w W := fun W h => hZ ▸ h
  have HM := hide (fun W (h : Below Z w W) => machine_any L rows A cc W (hR.below (lf W h)) hb)
  have HC := hide (fun W (h : Below Z w W) => cfLen_any xs X xc W (hX.below (lf W h)) hxb)
  have HAw := hide (fun W => awake59_any W)
  have e1 : decide ((12 : Int) < (xs.length : Int)) = decide (12 < xs.length) := by simp only [decide_eq_decide]; omega
  have e2 : decide ((xs.length : Int) ≤ 4096) = decide (xs.length ≤ 4096) := by simp only [decide_eq_decide]; omega
  have e3 : decide ((4099 : Int) < (xs.length : Int)) = decide (4099 < xs.length) := by simp only [decide_eq_decide]; omega
  obtain ⟨n, hn⟩ : ∃ n, rows.length = n := ⟨_, rfl⟩
  obtain ⟨m, hmm⟩ : ∃ m, xs.length = m := ⟨_, rfl⟩
  obtain ⟨q, hq⟩ : ∃ q, xs.any badL = q := ⟨_, rfl⟩
  obtain ⟨mc, hmc⟩ : ∃ mc, mch rows = mc := ⟨_, rfl⟩
  rw [hn, hmc] at HM
  rw [hn]
  rw [hmm, hq] at HC
  rw [hmm] at e1 e2 e3 hmain ⊢
  rw [hmc, hq] at hmain
  have hB0 : Below Z w (w.alloc (.cells #[.int .i64 L, .slice A n cc] 24)) := by rw [← hZ]; exact (Below.refl _ w).alloc (Nat.le_refl _) _
  have hA0 : (w.alloc (.cells #[.int .i64 L, .slice A n cc] 24)).heap[Z]? = some (.cells #[.int .i64 L, .slice A n cc] 24 (0, 0)) := hZ ▸ heap_alloc_new w _
  have HZ := hide hZ
  clear hZ lf hR hT hX hb hxb hn hmm hq hmc
  obtain ⟨t1, ht1⟩ : ∃ t, decide (12 < m) = t := ⟨_, rfl⟩
  obtain ⟨t2, ht2⟩ : ∃ t, decide (m ≤ 4096) = t := ⟨_, rfl⟩
  obtain ⟨t3, ht3⟩ : ∃ t, decide (4099 < m) = t := ⟨_, rfl⟩
  rw [ht1, ht2, ht3] at hmain
  rw [ht1] at e1
  rw [ht2] at e2
  rw [ht3] at e3
  clear ht1 ht2 ht3
  have cut : ∀ W1, Below Z w W1 → Z < W1.heap.size → Hid (Calls Tryz.prog 7 #[] W1 fun e w' => e = .returned (.bool true) ∧ Below Z w w') := fun W1 h hz => hide ((HAw.out W1).mono fun e w' h' => ⟨h'.1, h.trans (h'.2.mono (Nat.le_of_lt hz))⟩)
  cases mc
  · clear hmain e1 e2 e3
    go_enter Tryz.func3, Tryz.ntmps3
    go_wp2_with (fail)
    try rw [HZ.out]
    generalize (w.alloc (.cells #[.int .i64 L, .slice A n cc] 24)) = W0 at hB0 hA0 ⊢
    have hz0 : Z < W0.heap.size := (Array.getElem?_eq_some_iff.1 hA0).1
    (with_reducible refine (HM.out W0 hB0).mono ?_)
    rintro e W1 ⟨rfl, hb1⟩
    have HE := cut W1 (hB0.trans (hb1.mono (Nat.le_of_lt hz0))) (Nat.lt_of_lt_of_le hz0 hb1.size)
    clear hB0 hA0 hb1 hz0 HM HC HAw cut
    go_wp2_with (fail)
    (with_reducible refine HE.out.mono ?_)
    rintro e W8 ⟨rfl, hb8⟩
    go_wp2_with (fail)
    go_ret
    exact ⟨rfl, by rw [HZ.out]; exact hb8⟩
  · cases t1 <;> cases t2 <;> cases t3 <;> cases q
    all_goals first
      | exact absurd ⟨rfl, rfl, rfl⟩ hmain
      | (clear hmain
         go_enter Tryz.func3, Tryz.ntmps3
         go_wp2_with (fail)
         try rw [HZ.out]
         generalize (w.alloc (.cells #[.int .i64 L, .slice A n cc] 24)) = W0 at hB0 hA0 ⊢
         have hz0 : Z < W0.heap.size := (Array.getElem?_eq_some_iff.1 hA0).1
         (with_reducible refine (HM.out W0 hB0).mono ?_)
         rintro e W1 ⟨rfl, hb1⟩
         have hB1 := hB0.trans (hb1.mono (Nat.le_of_lt hz0))
         have HE := cut W1 hB1 (Nat.lt_of_lt_of_le hz0 hb1.size)
         have HCC := hide (HC.out W1 hB1)
         clear hB0 hA0 hb1 hz0 HM HC HAw cut hB1
         go_wp2_with (first
           | (go_at_call 5; (with_reducible refine HCC.out.mono ?_); rintro e w' ⟨rfl, rfl⟩)
           | (go_at_call 7; (with_reducible refine HE.out.mono ?_); rintro e W8 ⟨rfl, hb8⟩))
         go_ret
         exact ⟨rfl, by rw [HZ.out]; exact hb8⟩)
end Go.Proofs.YtpppbkdbpbpinaaGreatDoor
