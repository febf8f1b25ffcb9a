/- The walk of the law ReaderLists. -/
import Derived.Test.YtmajalpmbppkpaaAw58
set_option linter.unusedVariables false
namespace Go.Proofs.Ytmajalpmbppkpaa
open Go.RowKit
theorem nodup_len : ∀ (zs l : List Int), zs.Nodup → (∀ z ∈ zs, z ∈ l) → zs.length ≤ l.length
  | [], _, _, _ => Nat.zero_le _
  | z :: zs, l, hn, hs => by
    have h1 := List.nodup_cons.1 hn
    have hz := hs z (List.mem_cons_self)
    have := nodup_len zs (l.erase z) h1.2 (fun y hy => (List.mem_erase_of_ne (fun e => h1.1 (by rw [← e]; exact hy))).2 (hs y (List.mem_cons_of_mem _ hy)))
    rw [List.length_erase_of_mem hz] at this
    have := List.length_pos_of_mem hz
    simp only [List.length_cons]
    omega
theorem NumRes.len {xs : List Sct} {st : Int} {zs : List Int} (h : NumRes xs st zs) (hb : xs.length ≤ 4294967296) : zs.length ≤ 4294967296 := by
  have h1 := nodup_len zs (numsOf xs st xs.length) (h.1.imp (fun {a b} hab e => by omega)) (fun z hz => (h.2 z).1 hz)
  have h2 : (numsOf xs st xs.length).length ≤ xs.length := by
    unfold numsOf
    rw [List.length_map]
    refine Nat.le_trans (List.length_filter_le _ _) ?_
    rw [List.length_take]
    omega
  omega
theorem eq_self (zs : List Int) (A B : Option Addr) (c c2 : Nat) (w : World) (h1 : RowI w A zs) (h2 : RowI w B zs) (hb : zs.length ≤ 4294967296) :
    Calls Try.prog 18 #[.slice A zs.length c, .slice B zs.length c2] w fun e w' => e = .returned (.bool true) ∧ Below w.heap.size w w' :=
  (slEqI_any zs zs A B c c2 w h1 h2 hb hb).mono (by
    rintro e w' ⟨rfl, q, rfl⟩
    exact ⟨by simp, belowN (Below.refl _ _) q⟩)
set_option maxRecDepth 100000 in
set_option maxHeartbeats 4000000 in
theorem lLists_any (xs : List Sct) (ds : List (List Int)) (A A2 : Option Addr) (c c2 : Nat) (hw : ∀ x ∈ xs, (Lit.int .i64 x.ix).wf = true) (hb : xs.length ≤ 9223372036854775807) (hb2 : ds.length ≤ 9223372036854775807) (w : World) (hR : RowC w A xs) (hD : RowD w A2 ds) :
    Calls Try.prog 3 #[.slice A xs.length c, .slice A2 ds.length c2] w fun e w' => e = .returned (.bool true) ∧ Below w.heap.size w w' := by
  have H1 := hide (great_any xs A c w hR hb)
  have HW := hide (awake58_any w)
  cases hg : greatB xs with
  | true =>
    rw [hg] at H1
    clear hg
    go_enter Try.func3, Try.ntmps3
    go_wp2_with fail
    refine H1.out.mono ?_
    rintro e w1 ⟨rfl, rfl⟩
    go_wp2_with fail
    refine HW.out.mono ?_
    rintro e w1 ⟨rfl, h1⟩
    go_wp2
    go_ret
    exact ⟨rfl, h1⟩
  | false =>
    rw [hg] at H1
    have HG := hide hg
    clear hg
    cases h12 : decide ((12 : Int) < (ds.length : Int)) with
    | true =>
      go_enter Try.func3, Try.ntmps3
      go_wp2_with fail
      refine H1.out.mono ?_
      rintro e w1 ⟨rfl, rfl⟩
      go_wp2_with fail
      refine HW.out.mono ?_
      rintro e w1 ⟨rfl, h1⟩
      go_wp2
      go_ret
      exact ⟨rfl, h1⟩
    | false =>
      have HC := hide (contdf_any ds A2 c2 w hD (by simp at h12; omega))
      cases hbg : ds.any bigD with
      | true =>
        rw [hbg] at HC
        clear hbg
        go_enter Try.func3, Try.ntmps3
        go_wp2_with fail
        refine H1.out.mono ?_
        rintro e w1 ⟨rfl, rfl⟩
        go_wp2_with fail
        refine HC.out.mono ?_
        rintro e w1 ⟨rfl, rfl⟩
        go_wp2_with fail
        refine HW.out.mono ?_
        rintro e w1 ⟨rfl, h1⟩
        go_wp2
        go_ret
        exact ⟨rfl, h1⟩
      | false =>
        rw [hbg] at HC
        have hx : xs.length ≤ 12 ∧ ∀ x ∈ xs, x.dt.length ≤ 12 := by
          have := HG.out
          unfold greatB at this
          rw [Bool.or_eq_false_iff, List.any_eq_false] at this
          exact ⟨by simpa using this.2, fun x hx => by simpa using this.1 x hx⟩
        have hd : ds.length ≤ 12 ∧ ∀ d ∈ ds, d.length ≤ 12 := by
          rw [List.any_eq_false] at hbg
          refine ⟨by simp at h12; omega, fun d hd => ?_⟩
          have := hbg d hd
          unfold bigD at this
          simp at this
          omega
        clear hbg HW
        have hn : (cmpOf xs ds ds.length).length ≤ 4294967296 := Nat.le_trans (cmpOf_len _ _ _) (by have := hd.1; omega)
        have HN := hide hn
        have HR := hide hR
        have HD := hide hD
        have HX := hide hx
        have HDL := hide hd
        have C1 := hide (rdCmp_any xs ds A A2 c c2 w hR hD hx.1 hd.1 hd.2 hx.2 hw)
        have C2 := hide (fun W hB => refCmp_any xs ds A A2 c c2 W (hR.below hB) (hD.below hB) hx.1 hd.1 hd.2 hx.2)
        have C3 := hide (fun W hB => rdGood_any xs A c W (hR.below hB) hx.1 hw)
        have C4 := hide (fun W hB => refGood_any xs A c W (hR.below hB) hx.1)
        have C5 := hide (fun W hB => rdLost_any xs A c W (hR.below hB) hx.1 hw)
        have C6 := hide (fun W hB => refLost_any xs A c W (hR.below hB) hx.1)
        clear hR hD hx hd hn hw hb hb2
        obtain ⟨zs0, hz0⟩ : ∃ zs0, zs0 = cmpOf xs ds ds.length := ⟨_, rfl⟩
        rw [← hz0] at C1 C2 HN
        clear hz0
        go_enter Try.func3, Try.ntmps3
        go_wp2_with fail
        refine H1.out.mono ?_
        rintro e w1 ⟨rfl, rfl⟩
        go_wp2_with fail
        refine HC.out.mono ?_
        rintro e w1 ⟨rfl, rfl⟩
        go_wp2_with fail
        refine C1.out.mono ?_
        rintro e W1 ⟨v, rfl, hv, hB1⟩
        obtain ⟨A1, c1, rfl, hr1⟩ := hv.row
        clear hv
        go_wp2_with fail
        refine (C2.out W1 hB1).mono ?_
        rintro e W2 ⟨v, rfl, hv, hB12⟩
        obtain ⟨B2, e2, rfl, hr2⟩ := hv.1.row
        have hB2 := hB1.trans (hB12.mono hB1.size)
        replace hr1 := hr1.below hB12
        clear hv hB1 hB12
        go_wp2_with fail
        refine (C3.out W2 hB2).mono ?_
        rintro e W3 ⟨v, rfl, z3, hz3, hv, hB23⟩
        obtain ⟨A3, c3, rfl, hr3⟩ := hv.row
        have hB3 := hB2.trans (hB23.mono hB2.size)
        replace hr1 := hr1.below hB23
        replace hr2 := hr2.below hB23
        clear hv hB2 hB23
        go_wp2_with fail
        refine (C4.out W3 hB3).mono ?_
        rintro e W4 ⟨v, rfl, z4, hz4, hv, hB34⟩
        obtain rfl := num_eq hz3 hz4
        obtain ⟨A4, c4, rfl, hr4⟩ := hv.row
        have hB4 := hB3.trans (hB34.mono hB3.size)
        replace hr1 := hr1.below hB34
        replace hr2 := hr2.below hB34
        replace hr3 := hr3.below hB34
        have hl3 := hide (hz3.len (by have := HX.out.1; omega))
        clear hv hB3 hB34 hz3 hz4
        have E := hide (eq_self z3 A3 A4 c3 c4 W4 hr3 hr4 hl3.out)
        clear hr3 hr4
        go_wp2_with fail
        refine E.out.mono ?_
        rintro e W5 ⟨rfl, hB45⟩
        have hB5 := hB4.trans (hB45.mono hB4.size)
        replace hr1 := hr1.below hB45
        replace hr2 := hr2.below hB45
        clear hB4 hB45 E
        go_wp2_with fail
        refine (C5.out W5 hB5).mono ?_
        rintro e W6 ⟨v, rfl, z5, hz5, hv, hB56⟩
        obtain ⟨A5, c5, rfl, hr5⟩ := hv.row
        have hB6 := hB5.trans (hB56.mono hB5.size)
        replace hr1 := hr1.below hB56
        replace hr2 := hr2.below hB56
        clear hv hB5 hB56
        go_wp2_with fail
        refine (C6.out W6 hB6).mono ?_
        rintro e W7 ⟨v, rfl, z6, hz6, hv, hB67⟩
        obtain rfl := num_eq hz5 hz6
        obtain ⟨A6, c6, rfl, hr6⟩ := hv.row
        have hB7 := hB6.trans (hB67.mono hB6.size)
        replace hr1 := hr1.below hB67
        replace hr2 := hr2.below hB67
        replace hr5 := hr5.below hB67
        have hl5 := hide (hz5.len (by have := HX.out.1; omega))
        clear hv hB6 hB67 hz5 hz6
        have E := hide (eq_self z5 A5 A6 c5 c6 W7 hr5 hr6 hl5.out)
        clear hr5 hr6
        go_wp2_with fail
        refine E.out.mono ?_
        rintro e W8 ⟨rfl, hB78⟩
        have hB8 := hB7.trans (hB78.mono hB7.size)
        replace hr1 := hr1.below hB78
        replace hr2 := hr2.below hB78
        clear hB7 hB78 E
        have E := hide (eq_self zs0 A1 B2 c1 e2 W8 hr1 hr2 HN.out)
        clear hr1 hr2
        go_wp2_with fail
        refine E.out.mono ?_
        rintro e W9 ⟨rfl, hB89⟩
        have hB9 := hB8.trans (hB89.mono hB8.size)
        have HW := hide (awake58_any W9)
        go_wp2_with fail
        refine HW.out.mono ?_
        rintro e W10 ⟨rfl, hB910⟩
        go_wp2
        go_ret
        exact ⟨rfl, hB9.trans (hB910.mono hB9.size)⟩
end Go.Proofs.Ytmajalpmbppkpaa
