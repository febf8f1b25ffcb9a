import Derived.Test.YtbnpjoiojhnimaaGreatDoorG22
import Derived.Test.YtbnpjoiojhnimaaGreatDoorG31
import Derived.BigQuiet
import Derived.Test.YtbnpjoiojhnimaaGreatDoorG21
set_option linter.unusedSimpArgs false
set_option linter.unusedVariables false
/- splitting.Check: rows of splits; what it says where it answers OK. -/
namespace Go.Proofs.YtbnpjoiojhnimaaGreatDoor
open Go.RowKit
abbrev Spl := Int × List (List Int)
def RowSp (w : World) (A : Option Addr) (ss : List Spl) : Prop := 0 < ss.length → ∃ b o, A = some ⟨b, o, none⟩ ∧ b < w.heap.size ∧ ∀ k (hk : k < ss.length), w.cell? ⟨b, o + k * 2, none⟩ = some (.int .i64 ss[k].1) ∧ ∃ D c, w.cell? ⟨b, o + k * 2 + 1, none⟩ = some (.slice D ss[k].2.length c) ∧ RowD w D ss[k].2
theorem RowSp.below {w w' : World} {A : Option Addr} {ss : List Spl} (h : RowSp w A ss) (hB : Below w.heap.size w w') : RowSp w' A ss := by
 intro h0
 obtain ⟨b, o, h1, h2, h3⟩ := h h0
 refine ⟨b, o, h1, Nat.lt_of_lt_of_le h2 hB.size, fun k hk => ⟨(hB.cell (p := ⟨b, o + k * 2, none⟩) h2).trans (h3 k hk).1, ?_⟩⟩
 obtain ⟨D, c, c3, hd⟩ := (h3 k hk).2
 exact ⟨D, c, (hB.cell (p := ⟨b, o + k * 2 + 1, none⟩) h2).trans c3, hd.below hB⟩
def SplS (ss : List Spl) : Prop := ∀ x ∈ ss, x.2.length ≤ 4194304 ∧ x.2.flatten.length ≤ 4194304
def IfR (P : Prop) (e : Ending) : Prop := ∃ r : Int, e = .returned (.int .i64 r) ∧ (r = 0 → P)
theorem IfR.no {P : Prop} {r : Int} (h : r ≠ 0) : IfR P (.returned (.int .i64 r)) := ⟨r, rfl, fun e => absurd e h⟩
def SplOk (S : Int) (es : List Edg) (x : Spl) : Prop := 0 ≤ x.1 ∧ x.1 < S ∧ DivOk x.2 (lvI es x.1)
theorem at2 {w : World} {b : Nat} {x0 x1 : Value} {t : TypeId} (h : w.heap[b]? = some (.cells #[x0, x1] t (0, 0))) : w.cell? ⟨b, 0, none⟩ = some x0 ∧ w.cell? ⟨b, 1, none⟩ = some x1 ∧ ∀ j, w.frozen? ⟨b, j, none⟩ = false :=
 ⟨(cell_of_row _ _ 0 _ _ _ h).trans rfl, (cell_of_row _ _ 1 _ _ _ h).trans rfl, fun j => by simp [World.frozen?, h]⟩
theorem flat_part {ps : List (List Int)} {p : List Int} (h : p ∈ ps) : p.length ≤ ps.flatten.length := by
 obtain ⟨k, hk, rfl⟩ := List.getElem_of_mem h
 have h1 := flat_len ps (k + 1)
 rw [flat_take ps hk, List.length_append] at h1
 omega
theorem lvI_le (es : List Edg) (s : Int) : (lvI es s).length ≤ es.length := by
 unfold lvI lvs
 rw [List.length_map]
 have key : ∀ k, (lvP es s k).length ≤ k := by
  intro k
  induction k with
  | zero => simp [lvP]
  | succ k ih =>
   rw [lvP_succ, List.length_append]
   have : (lvAt es s k).length ≤ 1 := by
    unfold lvAt
    split
    ·split <;> simp
    ·simp
   omega
 exact key _
set_option maxRecDepth 100000 in
set_option maxHeartbeats 4000000 in
theorem spCheck_any (L S m : Int) (es : List Edg) (A : Option Addr) (c : Nat) (D : Option Addr) (cv : Nat) (vs : List Int) (ss : List Spl) (R : Option Addr) (q : Nat) (w : World) (hr : RowE w A es) (hl : vs.length ≤ 4294967296) (hv : RowI w D vs) (hR : RowSp w R ss) (hrl : ss.length ≤ 4294967296) (hok : SplS ss) :
  Calls Tryz.prog 165 #[.agg #[.int .i64 L, .int .i64 S, .slice A es.length c], .slice D vs.length cv, .int .i64 m, .slice R ss.length q] w fun e w' => IfR (baseB L S m es vs = true ∧ ∀ x ∈ ss, SplOk S es x) e ∧ Below w.heap.size w w' := by
 obtain ⟨Z, hZ⟩ : ∃ Z, w.heap.size = Z := ⟨_, rfl⟩
 have hB0 : Below Z w (w.alloc (.cells #[.int .i64 L, .int .i64 S, .slice A es.length c] 24)) := by rw [← hZ]; exact (Below.refl _ w).alloc (Nat.le_refl _) _
 have hb0 : (w.alloc (.cells #[.int .i64 L, .int .i64 S, .slice A es.length c] 24)).heap[Z]? = some (.cells #[.int .i64 L, .int .i64 S, .slice A es.length c] 24 (0, 0)) := hZ ▸ heap_alloc_new w _
 have hz0 : (w.alloc (.cells #[.int .i64 L, .int .i64 S, .slice A es.length c] 24)).heap.size = Z + 1 := by simp; omega
 have HBs := hide (fun W (h : Below Z w W) => spBase_any L S m es A c D cv vs W (hr.below (h.mono (Nat.le_of_eq hZ))) hl (hv.below (h.mono (Nat.le_of_eq hZ))))
 have HRx := hide (fun W (h : Below Z w W) => hR.below (h.mono (Nat.le_of_eq hZ)))
 have HOk := hide hok
 have HOu := hide (fun (hG : okG L S es = true) s (hs : 0 ≤ s ∧ s < S) W (h : Below Z w W) => grOut_any L S s es A c W hG hs (hr.below (h.mono (Nat.le_of_eq hZ))))
 have HDv := hide (fun ps P p W (hP : RowD W P ps) (zs : List Int) E e (hZ : RowI W E zs) h1 h2 h3 => spDiv_any ps P p zs E e W hP hZ h1 h2 h3)
 have HWt := hide (fun (hG : okG L S es = true) (hW : okW S m vs = true) s ps P p W (h : Below Z w W) (hP : RowD W P ps) (hm : 1 ≤ m) hs h1 h2 h3 h4 h5 => spWts_any L S m s es A c vs D cv ps P p W (hr.below (h.mono (Nat.le_of_eq hZ))) (hv.below (h.mono (Nat.le_of_eq hZ))) hP hm hs h1 h2 h3 h4 h5)
 have HB0 := hide hB0
 have HZ := hide hZ
 rw [hZ]
 clear hr hv hR hok hB0 hZ
 go_enter Tryz.func165, Tryz.ntmps165
 rw [← HZ.out] at hb0
 go_wp2_with fail
 rw [HZ.out] at hb0 ⊢
 generalize w.alloc (.cells #[.int .i64 L, .int .i64 S, .slice A es.length c] 24) = W0 at hb0 HB0 hz0 ⊢
 (with_reducible refine (HBs.out W0 HB0.out).mono ?_)
 rintro e w1 ⟨r, rfl, hr0, hB1⟩
 have hb1 := (hB1.block Z (by omega)).trans hb0
 have HB1 := hide (HB0.out.trans (hB1.mono (by omega)))
 have hz1 : Z < w1.heap.size := by have := hB1.size; omega
 clear hb0 hB1 HB0 HBs
 by_cases h0 : r = 0
 ·subst h0
  have HT := hide (show baseB L S m es vs = true by rw [← hr0]; rfl)
  clear hr0
  by_cases hn : ss.length = 0
  ·have hb : ((ss.length : Int) == 0) = true := by simp [hn]
   have hb' : (ss.length == 0) = true := by simp [hn]
   go_wp2
   go_ret
   exact ⟨IfR.no (by decide), HB1.out⟩
  ·have hb : ((ss.length : Int) == 0) = false := by simp [hn]
   have hb' : (ss.length == 0) = false := by simp [hn]
   obtain ⟨hG, hW, hE⟩ : okG L S es = true ∧ okW S m vs = true ∧ True := by
    have h := HT.out
    unfold baseB eigB at h
    simp only [Bool.and_eq_true] at h
    exact ⟨h.1.1.1.1, h.1.1.1.2, trivial⟩
   obtain ⟨hm1, _, hvl, _⟩ := okW_parts hW
   obtain ⟨_, hS64, hel⟩ := okG_size hG
   have HIn := hide (okG_in hG hvl.symm)
   have HOx := hide (HOu.out hG)
   have HWx := hide (HWt.out hG hW)
   clear hG hW HOu HWt hE
   go_wp2_with fail
   have HG0 := hide (fun W (h : Below (Z + 1) w1 W) => show Below Z w W ∧ W.heap[Z]? = some (.cells #[.int .i64 L, .int .i64 S, .slice A es.length c] 24 (0, 0)) from ⟨HB1.out.trans (h.mono (by omega)), (h.block Z (by omega)).trans hb1⟩)
   clear hb1 HB1
   go_loopw [28] (fun iv wr => ∃ k : Nat, k ≤ ss.length ∧ iv = .int .i64 k ∧ Hid (∀ j (hj : j < ss.length), j < k → SplOk S es ss[j]) ∧ Hid (Below (Z + 1) w1 wr)) (fun iv _ => ss.length - (intOf iv).toNat)
   case atStart => exact ⟨0, Nat.zero_le _, rfl, hide fun j _ h => absurd h (by omega), hide (Below.refl _ _)⟩
   case round =>
    obtain ⟨k, hk, rfl, HJ, HB⟩ := hrel
    have hzr : Z + 1 ≤ wr.heap.size := by have := HB.out.size; omega
    by_cases hlt : k < ss.length
    ·obtain ⟨g1, g2⟩ := HG0.out wr HB.out
     obtain ⟨b, o, rfl, hbl, hc⟩ := HRx.out wr g1 (by omega)
     obtain ⟨c1, P, p, c2, hP⟩ := hc k hlt
     have hsz := HOk.out _ (List.getElem_mem hlt)
     have HC := hide (fun j (hj : j < ss.length) => (hc j hj).1)
     have HX := hide (show ∀ y, ss[k] = y → SplOk S es y → ∀ j (hj : j < ss.length), j < k + 1 → SplOk S es ss[j] from fun y e h j hj hjk => by
      by_cases e2 : j < k
      ·exact HJ.out j hj e2
      ·obtain rfl : j = k := by omega
       rw [e]; exact h)
     obtain ⟨y, hy⟩ : ∃ y, ss[k] = y := ⟨_, rfl⟩
     have HX2 := hide (HX.out y hy)
     rw [hy] at c1 c2 hP hsz
     obtain ⟨s, ps⟩ := y
     simp only at c1 c2 hP hsz
     clear hc hy HX
     have hk0 : (0 : Int) ≤ (k : Int) := by omega
     have hk1 : (k : Int) < (ss.length : Int) := by omega
     obtain ⟨N, hN⟩ : ∃ N, wr.heap.size = N := ⟨_, rfl⟩
     have hBa : Below (Z + 1) w1 (wr.alloc (.cells #[.int .i64 s, .slice P ps.length p] 148)) := HB.out.alloc (by omega) _
     have hw := heap_alloc_new wr (.cells #[.int .i64 s, .slice P ps.length p] 148)
     obtain ⟨x0, x1, _⟩ := at2 hw
     have hZN : Z + 1 ≤ N := by omega
     have HNx := hide hN
     obtain ⟨ga, gb⟩ := HG0.out _ hBa
     obtain ⟨a0, a1, a2, _⟩ := at3 gb
     have HCa := hide (fun j (hj : j < ss.length) => (World.cell?_alloc_lt wr (.cells #[.int .i64 s, .slice P ps.length p] 148) ⟨b, o + j * 2, none⟩ hbl).trans (HC.out j hj))
     have HPa := hide (fun W (h : Below wr.heap.size wr W) => hP.below h)
     have hza : (wr.alloc (.cells #[.int .i64 s, .slice P ps.length p] 148)).heap.size = wr.heap.size + 1 := by simp
     have HBw := hide (show Below wr.heap.size wr (wr.alloc (.cells #[.int .i64 s, .slice P ps.length p] 148)) from (Below.refl _ _).alloc (Nat.le_refl _) _)
     clear hP HC
     by_cases h1 : s < 0
     ·have d1 : decide (s < 0) = true := decide_eq_true h1
      go_wp2
      go_ret
      exact ⟨IfR.no (by decide), ga⟩
     ·have d1 : decide (s < 0) = false := decide_eq_false h1
      by_cases h2 : S ≤ s
      ·have d2 : decide (S ≤ s) = true := decide_eq_true h2
       go_wp2
       go_ret
       exact ⟨IfR.no (by decide), ga⟩
      ·have d2 : decide (S ≤ s) = false := decide_eq_false h2
       have hsr : 0 ≤ s ∧ s < S := by omega
       have HO2 := hide (HOx.out s hsr)
       have HD2 := hide (fun W (h : Below Z w W) (hB : Below wr.heap.size wr W) E e (hE : RowI W E (lvI es s)) => HDv.out ps P p W (HPa.out W hB) (lvI es s) E e hE (by omega) (by omega) (by have := lvI_le es s; omega))
       have HW2 := hide (fun (hd : DivOk ps (lvI es s)) W (h : Below Z w W) (hB : Below wr.heap.size wr W) => HWx.out s ps P p W h (HPa.out W hB) hm1 (by omega) (by omega) (by omega) (by omega) (hd.pts HIn.out) fun p hp => by have := flat_part hp; omega)
       have hcase : k = 0 ∨ (∃ j y, k = j + 1 ∧ (wr.alloc (.cells #[.int .i64 s, .slice P ps.length p] 148)).cell? ⟨b, o + j * 2, none⟩ = some (.int .i64 y) ∧ decide (s ≤ y) = true) ∨ (∃ j y, k = j + 1 ∧ (wr.alloc (.cells #[.int .i64 s, .slice P ps.length p] 148)).cell? ⟨b, o + j * 2, none⟩ = some (.int .i64 y) ∧ decide (s ≤ y) = false) := by
        rcases Nat.eq_zero_or_pos k with h | h
        ·exact .inl h
        ·refine .inr ?_
         obtain ⟨j, rfl⟩ : ∃ j, k = j + 1 := ⟨k - 1, by omega⟩
         have cj := HCa.out j (by omega)
         by_cases hsy : s ≤ (ss[j]'(by omega)).1
         ·exact .inl ⟨j, _, rfl, cj, decide_eq_true hsy⟩
         ·exact .inr ⟨j, _, rfl, cj, decide_eq_false hsy⟩
       clear HOx HWx HDv HCa HPa hk
       rcases hcase with rfl | ⟨j, y, rfl, cj, hd⟩ | ⟨j, y, rfl, cj, hd⟩
       case' inr.inl =>
        have e1 : ((j + 1 : Nat) : Int) - 1 = (j : Int) := by omega
        have e2 : (0 : Int) < ((j + 1 : Nat) : Int) := by omega
        have e3 : (0 : Int) ≤ (j : Int) := by omega
        have e4 : (j : Int) < (ss.length : Int) := by omega
        go_wp2_with fail
        go_quiet (fail)
        go_wp2
        go_ret
        exact ⟨IfR.no (by decide), belowN ga _⟩
       case' inl =>
        replace c1 : wr.cell? ⟨b, o, none⟩ = some (.int .i64 s) := by simpa using c1
        replace c2 : wr.cell? ⟨b, o + 1, none⟩ = some (.slice P ps.length p) := by simpa using c2
        go_wp2_with fail
        go_quiet (fail)
        go_wp2_with fail
       case' inr.inr =>
        have e1 : ((j + 1 : Nat) : Int) - 1 = (j : Int) := by omega
        have e2 : (0 : Int) < ((j + 1 : Nat) : Int) := by omega
        have e3 : (0 : Int) ≤ (j : Int) := by omega
        have e4 : (j : Int) < (ss.length : Int) := by omega
        go_wp2_with fail
        go_quiet (fail)
        go_wp2_with fail
       all_goals
        (with_reducible refine (HO2.out _ (belowN ga _)).mono ?_)
        rintro e w2 ⟨v, rfl, hI, hB2⟩
        obtain ⟨E, ec, rfl⟩ := hI.shape
        obtain ⟨_, hra⟩ := hI.rowA
        have hN1 : Below (N + 1) (wr.alloc (.cells #[.int .i64 s, .slice P ps.length p] 148)) w2 := (belowN (Below.refl _ _) _).trans (hB2.mono (by simp; omega))
        have hw2 := (hN1.block N (by omega)).trans (hN ▸ hw)
        have hB2' := hBa.trans (hN1.mono (by omega))
        obtain ⟨ga2, gb2⟩ := HG0.out w2 hB2'
        obtain ⟨y0, y1, _⟩ := at2 hw2
        have HD3 := hide (HD2.out w2 ga2 (HBw.out.trans (hN1.mono (by omega))) E ec hra)
        have HW3 := hide hN1
        have HI3 := hide hB2'
        clear hI hra hB2 hN1 hB2' HO2 HD2 x0 x1 a0 a1 a2 ga gb hw hBa c1 c2
        go_wp2_with fail
        (with_reducible refine HD3.out.mono ?_)
        rintro e w3 ⟨⟨b1, rfl, hdv⟩, hB3⟩
        have hN3 := HW3.out.trans (hB3.mono (by have := HW3.out.size; simp at this; omega))
        have hw3 := (hB3.block N (by have := HW3.out.size; simp at this; omega)).trans hw2
        have hB3' := HI3.out.trans (hB3.mono (by have := HW3.out.size; simp at this; omega))
        obtain ⟨ga3, gb3⟩ := HG0.out w3 hB3'
        clear y0 y1 hw2 ga2 gb2 hB3 HD3 HW3 HI3
        cases b1
        ·go_wp2
         go_ret
         exact ⟨IfR.no (by decide), ga3⟩
        ·obtain ⟨y0, y1, _⟩ := at2 hw3
         obtain ⟨a0, a1, a2, _⟩ := at3 gb3
         have HW4 := hide (HW2.out (hdv rfl) w3 ga3 (HBw.out.trans (hN3.mono (by omega))))
         have HX3 := hide (HX2.out ⟨hsr.1, hsr.2, hdv rfl⟩)
         have hz3 := hN3.size
         have HI4 := hide hB3'
         clear hdv hN3 hw3 hB3' HW2 HX2 gb3
         go_wp2_with fail
         (with_reducible refine HW4.out.mono ?_)
         rintro e w4 ⟨v4, b2, rfl, _, hB4⟩
         have hB4' := HI4.out.trans (hB4.mono (by simp at hz3; omega))
         clear hB4 HI4 HW4 y0 y1 a0 a1 a2 ga3
         cases b2
         ·go_wp2
          go_ret
          exact ⟨IfR.no (by decide), (HG0.out _ hB4').1⟩
         ·have HI5 := hide hB4'
          clear hB4'
          go_wp2
          go_roundw
          case rel => first | exact ⟨0 + 1, by omega, by go_num, HX3, HI5⟩ | exact ⟨j + 1 + 1, by omega, by go_num, HX3, HI5⟩
          case measure => simp [intOf]; omega
    ·obtain rfl : k = ss.length := by omega
     go_wp2
     go_ret
     exact ⟨⟨0, rfl, fun _ => ⟨HT.out, fun x hx => by obtain ⟨j, hj, rfl⟩ := List.getElem_of_mem hx; exact HJ.out j hj hj⟩⟩, (HG0.out _ HB.out).1⟩
 ·have h1 : (r != 0) = true := bne_iff_ne.2 h0
  clear hr0
  go_wp2
  go_ret
  exact ⟨IfR.no h0, HB1.out⟩
def RowR (w : World) (A : Option Addr) (rs : List (List Spl)) : Prop := 0 < rs.length → ∃ b o, A = some ⟨b, o, none⟩ ∧ b < w.heap.size ∧ ∀ k (hk : k < rs.length), ∃ D c, w.cell? ⟨b, o + k, none⟩ = some (.slice D rs[k].length c) ∧ RowSp w D rs[k]
theorem RowR.below {w w' : World} {A : Option Addr} {rs : List (List Spl)} (h : RowR w A rs) (hB : Below w.heap.size w w') : RowR w' A rs := by
 intro h0
 obtain ⟨b, o, h1, h2, h3⟩ := h h0
 refine ⟨b, o, h1, Nat.lt_of_lt_of_le h2 hB.size, fun k hk => ?_⟩
 obtain ⟨D, c, c3, hd⟩ := h3 k hk
 exact ⟨D, c, (hB.cell (p := ⟨b, o + k, none⟩) h2).trans c3, hd.below hB⟩
def RndS (rs : List (List Spl)) : Prop := ∀ ss ∈ rs, ss.length ≤ 4294967296 ∧ SplS ss
structure CrtF (w : World) (x : Crt) (es ps : List Edg) (vs ixs : List Int) (rs : List (List Spl)) (k : Nat) (nb : Nat → Bool) (mb : Nat → ByteArray) (rows : List (List Int)) : Prop where
 n_ge : x.ge.n = es.length
 n_pe : x.pe.n = ps.length
 n_pw : x.pw.n = vs.length
 n_pr : x.pr.n = rs.length
 n_ix : x.ix.n = ixs.length
 n_ro : x.ro.n = rows.length
 n_nu : x.nu.n = k
 r_ge : RowE w x.ge.A es
 r_pe : RowE w x.pe.A ps
 r_pw : RowI w x.pw.A vs
 r_pr : RowR w x.pr.A rs
 r_ix : RowI w x.ix.A ixs
 r_ro : RowD w x.ro.A rows
 r_nu : AIs w x.nu.A k nb mb
theorem CrtF.below {w w' : World} {x : Crt} {es ps : List Edg} {vs ixs : List Int} {rs : List (List Spl)} {k : Nat} {nb : Nat → Bool} {mb : Nat → ByteArray} {rows : List (List Int)} (h : CrtF w x es ps vs ixs rs k nb mb rows) (hB : Below w.heap.size w w') : CrtF w' x es ps vs ixs rs k nb mb rows :=
 ⟨h.n_ge, h.n_pe, h.n_pw, h.n_pr, h.n_ix, h.n_ro, h.n_nu, h.r_ge.below hB, h.r_pe.below hB, h.r_pw.below hB, h.r_pr.below hB, h.r_ix.below hB, h.r_ro.below hB, h.r_nu.below hB⟩
end Go.Proofs.YtbnpjoiojhnimaaGreatDoor
