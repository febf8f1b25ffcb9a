import Derived.Test.YtbnpjoiojhnimaaGreatDoorG42
import Derived.Test.YtbnpjoiojhnimaaGreatDoorG43
import Derived.Test.YtbnpjoiojhnimaaGreatDoorG22
import Derived.Test.YtbnpjoiojhnimaaGreatDoorG47
import Derived.Test.YtbnpjoiojhnimaaGreatDoorG32
set_option linter.unusedSimpArgs false
set_option linter.unusedVariables false
/- groovelaw59.CheckerRates: the law's walk. -/
namespace Go.Proofs.YtbnpjoiojhnimaaGreatDoor
open Go.RowKit Go.Shelf
theorem gr_small {S : Int} {n : Nat} (h : gr23 S n = false) (h64 : S ≤ 64) : S ≤ 6 := by
 unfold gr23 at h
 simp only [Bool.or_eq_false_iff, Bool.and_eq_false_iff, decide_eq_false_iff_not] at h
 omega
theorem gr_len {S : Int} {n : Nat} (h : gr23 S n = false) : n ≤ 1027 := by
 unfold gr23 at h
 simp only [Bool.or_eq_false_iff, Bool.and_eq_false_iff, decide_eq_false_iff_not] at h
 omega
def SayR (x : Crt) (es ps : List Edg) (vs ixs : List Int) (k : Nat) (nb : Nat → Bool) (mb : Nat → ByteArray) (rows : List (List Int)) : Prop :=
 (x.kind = 1 → RateOk x.gl x.gs x.pl es ps vs ixs rows) ∧ (x.kind = 2 → ∃ m, ixs = [m] ∧ okR x.gl x.gs m es k nb mb = true)
theorem check_rate (x : Crt) (es ps : List Edg) (vs ixs : List Int) (rs : List (List Spl)) (k : Nat) (nb : Nat → Bool) (mb : Nat → ByteArray) (rows : List (List Int)) (w : World) (hF : CrtF w x es ps vs ixs rs k nb mb rows) (hk : x.kind = 1 ∨ x.kind = 2)
  (hvl : vs.length ≤ 8) (hrs : RndS rs) (hrl : ∀ l ∈ rows, l.length ≤ 40) (hel : es.length ≤ 1027) (hk6 : k ≤ 6) (hms : ∀ i, i < k → (mb i).size ≤ 8) :
  Calls Tryz.prog 6 #[.agg x.cells] w fun e w' => IfR (SayR x es ps vs ixs k nb mb rows) e ∧ Below w.heap.size w w' := by
 rcases hk with hk | hk
 ·refine (ckCheck_g x x.clear1 1 36 37 _ w hk (by decide) (by decide) (enters_of Tryz.func36 (by kernel_rfl) rfl) (enters_of Tryz.func37 (by kernel_rfl) rfl) rfl rfl (fun R W h => ckClear1_any x R W h)
   (fun W h => ckRateP_any x ixs es ps vs rs rows W hF.n_ge hF.n_pe hF.n_pw hF.n_pr hF.n_ix hF.n_ro (hF.r_ge.below h) (hF.r_pe.below h) (hF.r_pw.below h) (hF.r_pr.below h) (hF.r_ix.below h) (hF.r_ro.below h) (by omega) hrs (fun l hl => by have := hrl l hl; omega) (by omega))).mono ?_
  rintro e w' ⟨⟨r, rfl, h⟩, hB⟩
  refine ⟨⟨r, rfl, fun h0 => ⟨fun _ => ?_, fun h2 => (by rw [hk] at h2; cases h2)⟩⟩, hB⟩
  rcases h with ⟨_, _, h⟩ | ⟨h, _⟩
  ·exact h rfl
  ·rw [h0] at h; cases h
 ·refine (ckCheck_g x x.clear2 2 38 39 _ w hk (by decide) (by decide) (enters_of Tryz.func38 (by kernel_rfl) rfl) (enters_of Tryz.func39 (by kernel_rfl) rfl) rfl rfl (fun R W h => ckClear2_any x R W h)
   (fun W h => ckRefusal_full x ixs es k nb mb W hF.n_ge hF.n_nu hF.n_ix (hF.r_ge.below h) (by omega) (hF.r_nu.below h) (hF.r_ix.below h) (fun i hi => by have := hms i hi; omega))).mono ?_
  rintro e w' ⟨⟨r, rfl, h⟩, hB⟩
  refine ⟨⟨r, rfl, fun h0 => ⟨fun h1 => (by rw [hk] at h1; cases h1), fun _ => ?_⟩⟩, hB⟩
  rcases h with ⟨_, _, h⟩ | ⟨h, _⟩
  ·exact h rfl
  ·rw [h0] at h; cases h
def RowU (w : World) (A : Option Addr) (bs : List Int) : Prop := 0 < bs.length → ∃ b o, A = some ⟨b, o, none⟩ ∧ b < w.heap.size ∧ ∀ i (hi : i < bs.length), w.cell? ⟨b, o + i, none⟩ = some (.int .u8 bs[i]) ∧ 0 ≤ bs[i] ∧ bs[i] < 256
theorem RowU.below {w w' : World} {A : Option Addr} {bs : List Int} (h : RowU w A bs) (hB : Below w.heap.size w w') : RowU w' A bs := by
 intro h0
 obtain ⟨b, o, h1, h2, h3⟩ := h h0
 exact ⟨b, o, h1, Nat.lt_of_lt_of_le h2 hB.size, fun i hi => ⟨(hB.cell (p := ⟨b, o + i, none⟩) h2).trans (h3 i hi).1, (h3 i hi).2⟩⟩
theorem okR_parts {L n m : Int} {es : List Edg} {k : Nat} {nb : Nat → Bool} {mb : Nat → ByteArray} (h : okR L n m es k nb mb = true) : okG L n es = true ∧ 1 ≤ m ∧ m ≤ 256 ∧ (k : Int) = n ∧ n ≠ 0 ∧ refB k es m (fun i => zB (nb i) (mb i)) = true := by
 unfold okR okM at h
 simp only [Bool.and_eq_true, decide_eq_true_eq] at h
 exact ⟨h.1.1.1.1.1, h.1.1.1.2.1, h.1.1.1.2.2, h.1.1.2, h.1.2, h.2⟩
theorem rate_says {gl gs pl : Int} {es ps : List Edg} {vs ixs : List Int} {rows : List (List Int)} (h : RateOk gl gs pl es ps vs ixs rows) (hg : gr23 gs es.length = false) :
  ∃ (n m : Nat), gs = n ∧ ixs = [(m : Int)] ∧ 0 < n ∧ n ≤ 6 ∧ 1 ≤ m ∧ m ≤ 256 ∧ okG gl n es = true ∧ ∀ u, refB n es m u = false := by
 obtain ⟨m, xs, rfl, rfl, hG, hS, hK, hb⟩ := h
 obtain ⟨h0, h64, _⟩ := okG_size hG
 have h6 := gr_small hg h64
 obtain ⟨n, rfl⟩ : ∃ n : Nat, gs = (n : Int) := ⟨gs.toNat, by omega⟩
 have hE : eigB pl xs.length m ps vs = true := by
  unfold baseB at hb
  rw [Bool.and_eq_true] at hb
  exact hb.1
 obtain ⟨_, h2, ⟨k, hk0, _⟩, _⟩ := eigB_parts hE
 obtain ⟨hm1, hm2, hl, _⟩ := okW_parts h2
 obtain ⟨mm, rfl⟩ : ∃ mm : Nat, m = (mm : Int) := ⟨m.toNat, by omega⟩
 have := set_in hS (show k < xs.length by omega)
 refine ⟨n, mm, rfl, rfl, by omega, by omega, by omega, by omega, hG, fun u => ?_⟩
 cases hu : refB n es mm u with
 | false => rfl
 | true => exact (rate_no rfl hG hS hK hb hu).elim
theorem refuse_says {gl gs : Int} {es : List Edg} {ixs : List Int} {k : Nat} {nb : Nat → Bool} {mb : Nat → ByteArray} (h : ∃ m, ixs = [m] ∧ okR gl gs m es k nb mb = true) (hg : gr23 gs es.length = false) :
  ∃ (n m : Nat), gs = n ∧ ixs = [(m : Int)] ∧ 0 < n ∧ n ≤ 6 ∧ 1 ≤ m ∧ m ≤ 256 ∧ okG gl n es = true ∧ ¬ SchV n m es ∧ ∀ vs, eigB gl n m es vs = false := by
 obtain ⟨m, rfl, hR⟩ := h
 obtain ⟨hG, hm1, hm2, hk, hn, hr⟩ := okR_parts hR
 obtain ⟨h0, h64, _⟩ := okG_size hG
 have h6 := gr_small hg h64
 obtain ⟨mm, rfl⟩ : ∃ mm : Nat, m = (mm : Int) := ⟨m.toNat, by omega⟩
 subst hk
 refine ⟨k, mm, rfl, rfl, by omega, by omega, by omega, by omega, hG, fun h => ref_no_sch (okG_in hG rfl) hr h, fun vs => ?_⟩
 cases hv : eigB gl k mm es vs with
 | false => rfl
 | true => exact (ref_no_eig rfl hr hv).elim
set_option maxRecDepth 100000 in
set_option maxHeartbeats 4000000 in
theorem lRates59_any (x : Crt) (xs : List ByteArray) (ml : List Nat) (ws : List ByteArray) (ts : List Nat) (es ps : List Edg) (vs ixs : List Int) (rs : List (List Spl)) (k : Nat) (nb : Nat → Bool) (mb : Nat → ByteArray) (rows : List (List Int)) (lP : Option Addr) (lk lc : Nat) (lnb : Nat → Bool) (lmb : Nat → ByteArray) (vA : Option Addr) (bs : List Int) (vc : Nat) (w : World)
  (hL : CrtL w x (rs.map List.length) xs ml ((List.range k).map mb) ws (rows.map List.length) ts) (hF : CrtF w x es ps vs ixs rs k nb mb rows) (hrs : RndS rs) (hl : AIs w lP lk lnb lmb) (hlk : lk ≤ 9223372036854775807) (hv : RowU w vA bs) :
  Calls Tryz.prog 3 #[.agg x.cells, .slice lP lk lc, .slice vA bs.length vc] w fun e w' => e = .returned (.bool true) ∧ Below w.heap.size w w' := by
 obtain ⟨W0, hW0⟩ : ∃ W0, w.alloc (.cells x.cells 38) = W0 := ⟨_, rfl⟩
 have hA : Below w.heap.size w W0 := hW0 ▸ (Below.refl _ w).alloc (Nat.le_refl _) _
 have hN : W0.heap[w.heap.size]? = some (.cells x.cells 38 (0, 0)) := hW0 ▸ heap_alloc_new w _
 have hL0 : CrtL W0 x (rs.map List.length) xs ml ((List.range k).map mb) ws (rows.map List.length) ts := ⟨hL.n_pr, hL.r_pr.below hA, hL.b_pr, hL.n_cw, hL.r_cw.below hA, hL.b_cw, hL.n_mn, hL.r_mn.below hA, hL.b_mn, hL.n_nu, hL.r_nu.below hA, hL.b_nu, hL.n_wo, hL.r_wo.below hA, hL.b_wo, hL.n_ro, hL.r_ro.below hA, hL.b_ro, hL.n_ta, hL.r_ta.below hA, hL.b_ta, hL.b_pw, hL.b_ix⟩
 have HGr := hide (great59_any x _ xs ml _ ws _ ts _ hL0)
 have HAw := hide (fun W => awake59_any W)
 have HLn := hide (fun W (h : Below w.heap.size w W) => long23_any lk lP lc lnb lmb W (hl.below h) hlk)
 have HCk := hide (fun W (h : Below w.heap.size w W) (hM : CrtM x (rs.map List.length) xs ml ((List.range k).map mb) ws (rows.map List.length) ts) (hk : x.kind = 1 ∨ x.kind = 2) => check_rate x es ps vs ixs rs k nb mb rows W (hF.below h) hk (by have := hM.pw; rw [hF.n_pw] at this; exact this) hrs
  (fun l hl => by obtain ⟨j, hj, rfl⟩ := List.getElem_of_mem hl; have := hM.i_ro j (by rw [List.length_map]; exact hj); rwa [List.getElem_map] at this) (gr_len (by have := hM.g1; rw [hF.n_ge] at this; exact this)) (by have := hM.l_nu; simpa using this)
  (fun i hi => by have := hM.i_nu i (by simpa using hi); simpa using this))
 have HRa := hide (fun (hM : CrtM x (rs.map List.length) xs ml ((List.range k).map mb) ws (rows.map List.length) ts) (h : SayR x es ps vs ixs k nb mb rows) (hk : x.kind = 1) => rate_says (h.1 hk) (by have := hM.g1; rw [hF.n_ge] at this; exact this))
 have HRe := hide (fun (hM : CrtM x (rs.map List.length) xs ml ((List.range k).map mb) ws (rows.map List.length) ts) (h : SayR x es ps vs ixs k nb mb rows) (hk : x.kind = 2) => refuse_says (h.2 hk) (by have := hM.g1; rw [hF.n_ge] at this; exact this))
 have HE := hide (fun W (h : Below w.heap.size w W) => hF.r_ge.below h)
 have HI := hide (fun W (h : Below w.heap.size w W) => hF.r_ix.below h)
 have HL := hide (fun W (h : Below w.heap.size w W) => hl.below h)
 have HV := hide (fun W (h : Below w.heap.size w W) => hv.below h)
 have v0 : x.cells[0]? = some (.int .i64 x.kind) := rfl
 have v1 : x.cells[1]? = some (.int .i64 x.gl) := rfl
 have v2 : x.cells[2]? = some (.int .i64 x.gs) := rfl
 have v3 : x.cells[3]? = some (.slice x.ge.A es.length x.ge.c) := by rw [← hF.n_ge]; rfl
 have v15 : x.cells[15]? = some (.slice x.ix.A ixs.length x.ix.c) := by rw [← hF.n_ix]; rfl
 have hsz : x.cells.size = 19 := rfl
 obtain ⟨MM, hMM⟩ : ∃ MM : Prop, CrtM x (rs.map List.length) xs ml ((List.range k).map mb) ws (rows.map List.length) ts = MM := ⟨_, rfl⟩
 obtain ⟨SS, hSS⟩ : ∃ SS : Prop, SayR x es ps vs ixs k nb mb rows = SS := ⟨_, rfl⟩
 rw [hMM] at HGr HCk HRa HRe
 rw [hSS] at HCk HRa HRe
 clear hL hF hrs hl hv hL0 hMM hSS
 obtain ⟨CX, hCX⟩ : ∃ CX, x.cells = CX := ⟨_, rfl⟩
 rw [hCX] at hW0 hN HGr HCk v0 v1 v2 v3 v15 hsz ⊢
 generalize x.kind = kd at *
 generalize x.gl = gl at *
 generalize x.gs = gs at *
 generalize x.ge.A = gA at *
 generalize x.ge.c = gc at *
 generalize x.ix.A = iA at *
 generalize x.ix.c = ic at *
 clear hCX
 have HAt := hide (show ∀ W, Below W0.heap.size W0 W → W.heap[w.heap.size]? = some (.cells CX 38 (0, 0)) ∧ Below w.heap.size w W from fun W h => ⟨(h.block _ (by rw [← hW0]; simp)).trans hN, hA.trans (h.mono hA.size)⟩)
 have leave : ∀ W, Below w.heap.size w W → Hid (Calls Tryz.prog 7 #[] W fun e w' => e = .returned (.bool true) ∧ Below w.heap.size w w') := fun W h => hide ((HAw.out W).mono fun e w' ⟨h1, h2⟩ => ⟨h1, h.trans (h2.mono h.size)⟩)
 have HLv := hide leave
 clear leave HAw
 go_enter Tryz.func3, Tryz.ntmps3
 go_wp2_with (refine wpList_load_rowG (by rfl) 38 _ (by rfl) w.heap.size (by rfl) 38 CX (0, 0) _ hN Tryz.underlying38 (by rfl) (by rw [hsz]; exact certSize) ?_)
 (with_reducible refine HGr.out.mono ?_)
 rintro e W1 ⟨r, rfl, hM, hB1⟩
 obtain ⟨hN1, hA1⟩ := HAt.out W1 hB1
 clear HGr hN hA
 cases r
 ·have hM' := hM rfl
  have HL1 := hide (HLn.out W1 hA1)
  go_wp2_with fail
  (with_reducible refine HL1.out.mono ?_)
  rintro e W2 ⟨⟨b, rfl, hb⟩, rfl⟩
  cases b
  ·have hbl := hb rfl
   have c0 : W2.cell? ⟨w.heap.size, 0, none⟩ = some (.int .i64 kd) := (cell_of_row W2 _ 0 _ _ _ hN1).trans v0
   by_cases hk : kd = 1 ∨ kd = 2
   ·have HC1 := hide (HCk.out W2 hA1 hM' hk)
    have HBt := hide (fun W (h : Below W2.heap.size W2 W) => HAt.out W (hB1.trans (h.mono hB1.size)))
    have HSy := hide (show ∀ s : SS, (kd = 1 → ∃ (n m : Nat), gs = n ∧ ixs = [(m : Int)] ∧ 0 < n ∧ n ≤ 6 ∧ 1 ≤ m ∧ m ≤ 256 ∧ okG gl n es = true ∧ ∀ u, refB n es m u = false) ∧ (kd = 2 → ∃ (n m : Nat), gs = n ∧ ixs = [(m : Int)] ∧ 0 < n ∧ n ≤ 6 ∧ 1 ≤ m ∧ m ≤ 256 ∧ okG gl n es = true ∧ ¬ SchV n m es ∧ ∀ vs, eigB gl n m es vs = false) from fun s => ⟨HRa.out hM' s, HRe.out hM' s⟩)
    clear HCk hM hM' hB1 HAt HLn HL1 hb HRa HRe
    rcases hk with rfl | rfl
    ·skip
     go_wp2_with (refine wpList_load_rowG (by rfl) 38 _ (by rfl) w.heap.size (by rfl) 38 CX (0, 0) _ hN1 Tryz.underlying38 (by rfl) (by rw [hsz]; exact certSize) ?_)
     (with_reducible refine HC1.out.mono ?_)
     rintro e W3 ⟨⟨r2, rfl, hs⟩, hB2⟩
     obtain ⟨hN2, hA2⟩ := HBt.out W3 hB2
     by_cases h0 : r2 = 0
     ·subst h0
      obtain ⟨n, m, rfl, rfl, hn0, hn6, hm1, hm2, hG, hno⟩ := (HSy.out (hs rfl)).1 (by first | rfl | trivial)
      simp only [List.length_singleton] at v15
      have c0' : W3.cell? ⟨w.heap.size, 0, none⟩ = some (.int .i64 1) := (cell_of_row W3 _ 0 _ _ _ hN2).trans v0
      have c1 : W3.cell? ⟨w.heap.size, 1, none⟩ = some (.int .i64 gl) := (cell_of_row W3 _ 1 _ _ _ hN2).trans v1
      have c2 : W3.cell? ⟨w.heap.size, 2, none⟩ = some (.int .i64 (n : Int)) := (cell_of_row W3 _ 2 _ _ _ hN2).trans v2
      have c3 : W3.cell? ⟨w.heap.size, 3, none⟩ = some (.slice gA es.length gc) := (cell_of_row W3 _ 3 _ _ _ hN2).trans v3
      have c15 : W3.cell? ⟨w.heap.size, 15, none⟩ = some (.slice iA 1 ic) := (cell_of_row W3 _ 15 _ _ _ hN2).trans v15
      obtain ⟨I, io, rfl, hIl, hIc⟩ := HI.out W3 hA2 (by simp)
      have d0 : W3.cell? ⟨I, io, none⟩ = some (.int .i64 (m : Int)) := by have := hIc 0 (by simp); simpa using this
      have hin := okG_in hG (n := n) rfl
      have h01 : (0 : Int) < 1 := by decide
      have HCt := hide (fun W (h : Below W3.heap.size W3 W) => HBt.out W (hB2.trans (h.mono hB2.size)))
      have HRf := hide (evRefute_ok gl n m es gA gc W3 hG (by unfold okM; rw [decide_eq_true (show (1 : Int) ≤ (m : Int) by omega), decide_eq_true (show (m : Int) ≤ 256 by omega)]; rfl) hn0 (by omega) hin (HE.out W3 hA2))
      clear HC1 hs HBt hB2 HSy hIc
      go_wp2_with fail
      (with_reducible refine HRf.out.mono ?_)
      rintro e W4 ⟨hB4, ⟨h, _⟩ | ⟨_, rfl⟩⟩
      ·rw [hno] at h; cases h
      ·obtain ⟨hN4, hA4⟩ := HCt.out W4 hB4
       have e1 : W4.cell? ⟨w.heap.size, 1, none⟩ = some (.int .i64 gl) := (cell_of_row W4 _ 1 _ _ _ hN4).trans v1
       have e2 : W4.cell? ⟨w.heap.size, 2, none⟩ = some (.int .i64 (n : Int)) := (cell_of_row W4 _ 2 _ _ _ hN4).trans v2
       have e3 : W4.cell? ⟨w.heap.size, 3, none⟩ = some (.slice gA es.length gc) := (cell_of_row W4 _ 3 _ _ _ hN4).trans v3
       have HCf := hide (evCheckRefute_any gl n m es gA gc lk lP lc lnb lmb W4 (HE.out W4 hA4) (by have := hbl.1; omega) (HL.out W4 hA4) (fun i hi => by have := hbl.2 i hi; omega))
       have hRf : okR gl n m es lk lnb lmb = false := by
        cases h : okR gl n m es lk lnb lmb with
        | false => rfl
        | true =>
         obtain ⟨_, _, _, hk, _, hr⟩ := okR_parts h
         have : lk = n := by omega
         rw [this, hno] at hr
         cases hr
       rw [hRf] at HCf
       clear HRf c0' c1 c2 c3 c15 d0 hIl hG hin hno hRf
       go_wp2_with fail
       (with_reducible refine HCf.out.mono ?_)
       rintro e W5 ⟨r5, rfl, hr5, hB5⟩
       have h5 : (r5 != 0) = true := by rw [bne_iff_ne]; exact fun h => by rw [h] at hr5; simp at hr5
       have HX := HLv.out W5 (HCt.out W5 (hB4.trans (hB5.mono hB4.size))).2
       clear HCf hr5 e1 e2 e3
       go_wp2_with (go_at_call 7; with_reducible refine HX.out.mono ?_; rintro e w' ⟨rfl, hE⟩)
       go_ret
       exact ⟨rfl, hE⟩
     ·have hne0 : (r2 != 0) = true := by simpa using h0
      have HX := HLv.out W3 hA2
      clear hs HC1 h0
      go_wp2_with (go_at_call 7; with_reducible refine HX.out.mono ?_; rintro e w' ⟨rfl, hE⟩)
      go_ret
      exact ⟨rfl, hE⟩
    ·skip
     go_wp2_with (refine wpList_load_rowG (by rfl) 38 _ (by rfl) w.heap.size (by rfl) 38 CX (0, 0) _ hN1 Tryz.underlying38 (by rfl) (by rw [hsz]; exact certSize) ?_)
     (with_reducible refine HC1.out.mono ?_)
     rintro e W3 ⟨⟨r2, rfl, hs⟩, hB2⟩
     obtain ⟨hN2, hA2⟩ := HBt.out W3 hB2
     by_cases h0 : r2 = 0
     ·subst h0
      obtain ⟨n, m, rfl, rfl, hn0, hn6, hm1, hm2, hG, hno, hne⟩ := (HSy.out (hs rfl)).2 (by first | rfl | trivial)
      simp only [List.length_singleton] at v15
      have c0' : W3.cell? ⟨w.heap.size, 0, none⟩ = some (.int .i64 2) := (cell_of_row W3 _ 0 _ _ _ hN2).trans v0
      have c1 : W3.cell? ⟨w.heap.size, 1, none⟩ = some (.int .i64 gl) := (cell_of_row W3 _ 1 _ _ _ hN2).trans v1
      have c2 : W3.cell? ⟨w.heap.size, 2, none⟩ = some (.int .i64 (n : Int)) := (cell_of_row W3 _ 2 _ _ _ hN2).trans v2
      have c3 : W3.cell? ⟨w.heap.size, 3, none⟩ = some (.slice gA es.length gc) := (cell_of_row W3 _ 3 _ _ _ hN2).trans v3
      have c15 : W3.cell? ⟨w.heap.size, 15, none⟩ = some (.slice iA 1 ic) := (cell_of_row W3 _ 15 _ _ _ hN2).trans v15
      obtain ⟨I, io, rfl, hIl, hIc⟩ := HI.out W3 hA2 (by simp)
      have d0 : W3.cell? ⟨I, io, none⟩ = some (.int .i64 (m : Int)) := by have := hIc 0 (by simp); simpa using this
      have hin := okG_in hG (n := n) rfl
      have h01 : (0 : Int) < 1 := by decide
      have HCt := hide (fun W (h : Below W3.heap.size W3 W) => HBt.out W (hB2.trans (h.mono hB2.size)))
      have hmk := run_make_zs n (by omega) W3
      have hmn : min (n : Int) 8 = (n : Int) := by omega
      obtain ⟨Z, hZ⟩ : ∃ Z, W3.heap.size = Z := ⟨_, rfl⟩
      have hB3 : Below Z W3 (W3.alloc (.cells (Array.replicate n (.int .i64 0)) 3)) := by rw [← hZ]; exact (Below.refl _ _).alloc (Nat.le_refl _) _
      have hI3 : IB (W3.alloc (.cells (Array.replicate n (.int .i64 0)) 3)) Z (List.replicate n 0) := hZ ▸ IB.zero W3 n
      have HBm := hide (fun W (h : Below Z W3 W) => HCt.out W (by rw [hZ]; exact h))
      have HB3 := hide hB3
      have HI3 := hide hI3
      have HG := hide hG
      have HZ := hide hZ
      clear HC1 hs HBt hB2 HSy hIc hB3 hI3 hG hZ HCt
      go_wp2_with fail
      try rw [HZ.out]
      generalize W3.alloc (.cells (Array.replicate n (.int .i64 0)) 3) = WA at HB3 HI3 ⊢
      clear c0' c1 c2 c3 c15 d0 hmk hmn
      go_loopw [77] (fun iv wr => ∃ (i : Nat) (zs : List Int), iv = .int .i64 i ∧ i ≤ n ∧ zs.length = n ∧ Hid (IB wr Z zs) ∧ Hid (Below Z W3 wr)) (fun iv _ => n - (intOf iv).toNat)
      case atStart => exact ⟨0, _, rfl, Nat.zero_le _, by simp, HI3, HB3⟩
      case round =>
       obtain ⟨i, zs, rfl, hi, hzl, HIB, HB⟩ := hrel
       obtain ⟨hNr, hAr⟩ := HBm.out wr HB.out
       by_cases hlt : i < n
       ·have hi0 : (0 : Int) ≤ (i : Int) := by omega
        have hi1 : (i : Int) < (n : Int) := by omega
        have z0 := HIB.out.cell (k := i) (by omega)
        have zf := HIB.out.free i
        by_cases hib : i < bs.length
        ·obtain ⟨vb, vo, rfl, hvl, hvc⟩ := HV.out wr hAr (by omega)
         obtain ⟨y0, y1, y2⟩ := hvc i hib
         have hj1 : (i : Int) < (bs.length : Int) := by omega
         have hd : decide ((i : Int) < (bs.length : Int)) = true := decide_eq_true hj1
         have hd' : decide (i < bs.length) = true := decide_eq_true hib
         obtain ⟨q, hq⟩ : ∃ q, bs[i] = q := ⟨_, rfl⟩
         rw [hq] at y0 y1 y2
         have hSet := hide (fun x => HIB.out.set i x)
         have hBs := hide (fun x => HB.out.setCell (p := ⟨Z, i, none⟩) (Nat.le_refl Z) (.int .i64 x))
         clear hvc hq hNr hAr
         go_wp2
         go_roundw
         case rel => exact ⟨i + 1, _, by go_num, hlt, by rw [List.length_set]; exact hzl, hide (hSet.out _), hide (hBs.out _)⟩
         case measure => simp [intOf]; omega
        ·have hd : decide ((i : Int) < (bs.length : Int)) = false := decide_eq_false (by omega)
         have hd' : decide (i < bs.length) = false := decide_eq_false hib
         clear hNr hAr z0 zf
         go_wp2
         go_roundw
         case rel => exact ⟨i + 1, _, by go_num, hlt, hzl, HIB, HB⟩
         case measure => simp [intOf]; omega
       ·obtain rfl : i = n := by omega
        have e1 : wr.cell? ⟨w.heap.size, 1, none⟩ = some (.int .i64 gl) := (cell_of_row wr _ 1 _ _ _ hNr).trans v1
        have e2 : wr.cell? ⟨w.heap.size, 2, none⟩ = some (.int .i64 (i : Int)) := (cell_of_row wr _ 2 _ _ _ hNr).trans v2
        have e3 : wr.cell? ⟨w.heap.size, 3, none⟩ = some (.slice gA es.length gc) := (cell_of_row wr _ 3 _ _ _ hNr).trans v3
        have HSr := hide (evSearch_any gl i m 12 es gA gc wr hn0 HG.out hm1 hm2 (by omega) (by omega) (HE.out wr hAr))
        rw [show ((12 : Nat) : Int) = 12 from rfl] at HSr
        clear hNr
        go_wp2_with fail
        (with_reducible refine HSr.out.mono ?_)
        rintro e W5 ⟨sv, r5, rfl, h5, hB5⟩
        have hX5 : Below Z W3 W5 := HB.out.trans (hB5.mono (by have := HB.out.size; have := HZ.out; omega))
        obtain ⟨hN5, hA5⟩ := HBm.out W5 hX5
        rcases h5 with rfl | ⟨_, h5⟩
        ·have f1 : W5.cell? ⟨w.heap.size, 1, none⟩ = some (.int .i64 gl) := (cell_of_row W5 _ 1 _ _ _ hN5).trans v1
         have f2 : W5.cell? ⟨w.heap.size, 2, none⟩ = some (.int .i64 (i : Int)) := (cell_of_row W5 _ 2 _ _ _ hN5).trans v2
         have f3 : W5.cell? ⟨w.heap.size, 3, none⟩ = some (.slice gA es.length gc) := (cell_of_row W5 _ 3 _ _ _ hN5).trans v3
         have HEg := hide (evEigen_any gl i m es gA gc (some ⟨Z, 0, none⟩) i zs W5 (HE.out W5 hA5) (by omega) (HIB.out.row.below hB5))
         rw [hne zs, hzl] at HEg
         clear HSr e1 e2 e3 hN5
         go_wp2_with fail
         (with_reducible refine HEg.out.mono ?_)
         rintro e W6 ⟨r6, rfl, hr6, hB6⟩
         have h6 : (r6 != 0) = true := by rw [bne_iff_ne]; exact fun h => by rw [h] at hr6; simp at hr6
         have HX := HLv.out W6 (HBm.out W6 (hX5.trans (hB6.mono (by have := hX5.size; have := HZ.out; omega)))).2
         clear HEg hr6 f1 f2 f3
         go_wp2_with (go_at_call 7; with_reducible refine HX.out.mono ?_; rintro e w' ⟨rfl, hE⟩)
         go_ret
         exact ⟨rfl, hE⟩
        ·exact (hno h5).elim
     ·have hne0 : (r2 != 0) = true := by simpa using h0
      have HX := HLv.out W3 hA2
      clear hs HC1 h0
      go_wp2_with (go_at_call 7; with_reducible refine HX.out.mono ?_; rintro e w' ⟨rfl, hE⟩)
      go_ret
      exact ⟨rfl, hE⟩
   ·have hk1 : (kd != 1) = true := by simp; omega
    have hk2 : (kd != 2) = true := by simp; omega
    have HX := HLv.out W2 hA1
    clear hM hM' HCk hk HLn HL1 hb
    go_wp2_with (go_at_call 7; with_reducible refine HX.out.mono ?_; rintro e w' ⟨rfl, hE⟩)
    go_ret
    exact ⟨rfl, hE⟩
  ·have HX := HLv.out W2 hA1
   clear hM hM' HCk HLn HL1 hb
   go_wp2_with (go_at_call 7; with_reducible refine HX.out.mono ?_; rintro e w' ⟨rfl, hE⟩)
   go_ret
   exact ⟨rfl, hE⟩
 ·have HX := HLv.out W1 hA1
  clear hM HCk HLn
  go_wp2_with (go_at_call 7; with_reducible refine HX.out.mono ?_; rintro e w' ⟨rfl, hE⟩)
  go_ret
  exact ⟨rfl, hE⟩
end Go.Proofs.YtbnpjoiojhnimaaGreatDoor
