/- The walk of the law IndelBall. -/
import Derived.Test.YtmajalpmbppkpaaSC
import Derived.Test.YtmajalpmbppkpaaLetW
import Derived.Test.YtmajalpmbppkpaaSub
set_option linter.unusedVariables false
namespace Go.Proofs.Ytmajalpmbppkpaa
open Go.RowKit
theorem row_asc {w : World} {B : Nat} {v : Value} {xs : List ByteArray} (h : Strs w B v xs) : ∃ A c, v = .slice A xs.length c ∧ (0 < xs.length → ∃ g, A = some ⟨g, 0, none⟩ ∧ ∀ k (hk : k < xs.length), w.cell? ⟨g, k, none⟩ = some (.string xs[k])) ∧ RowS w A xs := by
  obtain ⟨A, c, rfl, hR⟩ := strs_row h
  refine ⟨A, c, rfl, fun hp => ?_, hR⟩
  obtain ⟨g, cap, hv, hb, hg⟩ := h.form hp
  simp only [Value.slice.injEq] at hv
  obtain ⟨rfl, _, rfl⟩ := hv
  exact ⟨g, rfl, fun k hk => h.cell hk⟩
theorem strs_sl {w : World} {B : Nat} {v : Value} {xs : List ByteArray} (h : Strs w B v xs) : SlS w v xs := by
  by_cases hv : v = .slice none 0 0
  · left
    refine ⟨hv, ?_⟩
    subst hv
    rcases h.2 with ⟨_, h0⟩ | ⟨g, cap, cur, e, _⟩
    · exact List.eq_nil_of_length_eq_zero h0
    · cases e
  · obtain ⟨g, c, rfl, _, _, _, _, hcell⟩ := Row1.form ⟨h, hv⟩
    exact .inr ⟨⟨g, 0, none⟩, c, rfl, fun k hk => by rw [show (⟨g, 0, none⟩ : Addr).add k = ⟨g, k, none⟩ by simp [Addr.add]; omega]; exact hcell k hk⟩
theorem Strs.kept_ {w w' : World} {B : Nat} {v : Value} {xs : List ByteArray} {row : Option Nat} (h : Strs w B v xs) (hg : w.grownBy w' row) (hne : ∀ g, row = some g → g < B) : Strs w' B v xs := by
  refine World.ownsRow.kept h hg ?_
  cases hv : v.ownBlock with
  | none => exact .inl rfl
  | some k =>
    right
    intro e
    have := (World.ownsRow.lt h k hv).1
    have := hne k e.symm
    omega
theorem chk_sub {s x : List UInt8} (h : x.Sublist s) (hs : s.length ≤ 65536) (hc : chk 16 s = 0) : chk 16 x = 0 :=
  chk_of (Nat.le_trans h.length_le hs) fun c hx => chk_all hc c (h.subset hx)
theorem delsOf_step {ls ns rs : List ByteArray} {k : Nat} (hk : k < ls.length) (hn : ∀ z, z ∈ ns ↔ delsOf ls k z) (hr : DelRes ls[k] rs) : ∀ z, z ∈ ns ++ rs ↔ delsOf ls (k + 1) z := by
  intro z
  rw [List.mem_append, hn z, delRes_mem hr]
  constructor
  · rintro (⟨i, hi, h1, h2⟩ | ⟨j, hj, rfl⟩)
    · exact ⟨i, hi, by omega, h2⟩
    · exact ⟨k, hk, by omega, j, hj, rfl⟩
  · rintro ⟨i, hi, h1, j, hj, rfl⟩
    rcases Nat.lt_or_ge i k with h | h
    · exact .inl ⟨i, hi, h, j, hj, rfl⟩
    · obtain rfl : i = k := by omega
      exact .inr ⟨j, hj, rfl⟩
theorem asc_len2_ {rs : List ByteArray} {L : List (List UInt8)} (h : Asc rs) (hs : ∀ z ∈ rs, z.data.toList ∈ L) : rs.length ≤ L.length := by
  have hn : (rs.map fun y => y.data.toList).Nodup := List.pairwise_map.2 ((show List.Pairwise (fun a b : ByteArray => a.data.toList < b.data.toList) rs from h).imp fun {a b} (hlt : a.data.toList < b.data.toList) (e : a.data.toList = b.data.toList) => by rw [e] at hlt; exact List.lt_irrefl _ hlt)
  have h1 := len_subset (m := L) hn (fun x hx => by
    obtain ⟨y, hy, rfl⟩ := List.mem_map.1 hx
    exact hs y hy)
  rwa [List.length_map] at h1
theorem rdS_below {w w' : World} {v : Value} {xs : List ByteArray} (h : RdS w v xs) (hB : Below w.heap.size w w') : RdS w' v xs := by
  rcases h with h | ⟨g, c, h1, h2⟩
  · exact .inl h
  · exact .inr ⟨g, c, h1, fun k hk => (hB.cell (p := ⟨g, k, none⟩) (World.block_lt_of_cell? w _ (h2 k hk))).trans (h2 k hk)⟩
theorem slEq_of (xs ys : List ByteArray) (v v' : Value) (w : World) (h1 : RdS w v xs) (h2 : RdS w v' ys) (hb : xs.length ≤ 4294967296) (he : xs = ys) :
    Calls Try.prog 42 #[v, v'] w fun e w' => e = .returned (.bool true) ∧ ∃ q, w' = w.drewN q := by
  subst he
  have h := slEqual_any xs xs v v' w h1 h2 hb hb
  rwa [show decide (xs = xs) = true from decide_eq_true rfl] at h
theorem delRes_len {s : ByteArray} {rs : List ByteArray} (h : DelRes s rs) : rs.length ≤ s.size := by
  have hl := asc_len2_ h.1 (fun z hz => (h.2 z).1 hz)
  unfold dels at hl
  rw [List.length_map] at hl
  have := List.length_filter_le (runAt s) (List.range s.size)
  rw [List.length_range] at this
  omega
theorem ball_end {s : ByteArray} {ls : List ByteArray} (h : BallRes s s.size ls) : ls = [⟨#[]⟩] := by
  refine asc_eq h.1 (List.pairwise_singleton _ _) fun x => ?_
  rw [h.2, List.mem_singleton]
  unfold Pj
  constructor
  · rintro ⟨_, h2⟩
    refine ba_ext ?_
    have : x.data.toList.length = 0 := by simp at h2 ⊢; omega
    exact List.eq_nil_of_length_eq_zero this
  · rintro rfl
    exact ⟨List.nil_sublist _, by simp⟩
set_option maxRecDepth 100000 in
set_option maxHeartbeats 4000000 in
theorem lBall_any (s t : ByteArray) (n : Int) (ws : s.size ≤ maxLen) (wt : t.size ≤ maxLen) (wn : (Lit.int .u8 n).wf = true) (w : World) :
    Calls Try.prog 9 #[.string s, .string t, .int .u8 n] w fun e w' => e = .returned (.bool true) ∧ Below w.heap.size w w' := by
  have hrow : ∀ k (hk : k < [s, t].length), (w.alloc (Obj.cells #[Value.string s, Value.string t] 9)).cell? ⟨w.heap.size, k, none⟩ = some (.string [s, t][k]) := fun k hk => Strs.cell (Strs.lit w [s, t] (Nat.le_refl _) (by simp) _ rfl) hk
  have HF := fine_any [s, t] 9 w.heap.size 2 _ hrow (by simp)
  rw [show ((9 : Nat) : Int) = 9 from rfl] at HF
  have HB0 := (Below.refl w.heap.size w).alloc (Nat.le_refl _) (Obj.cells #[Value.string s, Value.string t] 9)
  have hz0 : (w.alloc (Obj.cells #[Value.string s, Value.string t] 9)).heap.size = w.heap.size + 1 := by simp
  rw [hz0] at HF
  clear hrow hz0
  cases hfine : [s, t].all (fin 9) with
  | false =>
    rw [hfine] at HF
    have HFF := hide HF
    have HBB := hide HB0
    clear HF HB0 hfine
    go_enter Try.func9, Try.ntmps9
    go_wp2_with fail
    refine HFF.out.mono ?_
    rintro e w1 ⟨rfl, hB1⟩
    go_wp2_with fail
    refine (awake47_any _).mono ?_
    rintro e w2 ⟨rfl, hB2⟩
    go_wp2
    go_ret
    exact ⟨rfl, (HBB.out.trans (hB1.mono (by omega))).trans (hB2.mono (by have := HBB.out.size; have := hB1.size; omega))⟩
  | true =>
    rw [hfine] at HF
    have hall := fin_all hfine
    obtain ⟨hs9, hs0⟩ := hall s (by simp)
    obtain ⟨ht9, ht0⟩ := hall t (by simp)
    have HFF := hide HF
    have HBB := hide HB0
    have hat : 0 ≤ n ∧ n ≤ 255 := bounds_u8 wn
    obtain ⟨a1, rfl⟩ := Int.eq_ofNat_of_zero_le hat.1
    have ha1 : a1 ≤ 255 := by omega
    obtain ⟨k, hk, hk2⟩ : ∃ k : Nat, (a1 : Int) % 5 = (k : Int) ∧ k < 5 := ⟨a1 % 5, by omega, Nat.mod_lt _ (by omega)⟩
    clear HF HB0 hfine hall wn hat ht0
    by_cases hgt : s.size < k
    · have hd : decide ((s.size : Int) < (k : Int)) = true := decide_eq_true (by omega)
      have hd2 : (s.size : Int) < (k : Int) := by omega
      have hd3 : (s.size : Int) < (a1 : Int) % 5 := by omega
      clear hgt
      go_enter Try.func9, Try.ntmps9
      go_wp2_with fail
      refine HFF.out.mono ?_
      rintro e w1 ⟨rfl, hB1⟩
      go_wp2_with fail
      refine (awake47_any _).mono ?_
      rintro e w2 ⟨rfl, hB2⟩
      go_wp2
      go_ret
      exact ⟨rfl, (HBB.out.trans (hB1.mono (by omega))).trans (hB2.mono (by have := HBB.out.size; have := hB1.size; omega))⟩
    · have hks : k ≤ s.size := by omega
      have hd2 : ¬ (s.size : Int) < (k : Int) := by omega
      have hd3 : ¬ (s.size : Int) < (a1 : Int) % 5 := by omega
      have C1 := fun W => ball_any s k (by omega) (.inl (by omega)) W
      rw [bErr_of ⟨by omega, hs0⟩ (by omega) (by omega)] at C1
      have H1 := hide C1
      have HS0 := hide hs0
      clear hgt C1 hs0
      go_enter Try.func9, Try.ntmps9
      go_wp2_with fail
      refine HFF.out.mono ?_
      rintro e w1 ⟨rfl, hB1⟩
      have hBa := HBB.out.trans (hB1.mono (by omega))
      clear HFF HBB hB1
      go_wp2_with fail
      rw [hk]
      refine (H1.out _).mono ?_
      rintro e w2 ⟨v1, rfl, ⟨ls, hrow1, hres1, _⟩, hB2⟩
      have hL := hres1 trivial
      rw [Int.toNat_natCast] at hL
      have hBb := below2 hBa hB2
      have hll : ls.length ≤ 4096 := asc_le (s := s) (by omega) hL.1 (fun z hz => ((hL.2 z).1 hz).1)
      obtain ⟨A, c, rfl, hA, hRS⟩ := row_asc hrow1
      have HASC := hide (asc_t ls A c w2 hA (by omega) hL.1)
      have HL := hide hL
      have HR1 := hide hrow1
      have HRS := hide hRS
      clear hA hRS hres1 hL H1 hBa hB2 hrow1
      go_wp2_with fail
      refine HASC.out.mono ?_
      rintro e w3 ⟨rfl, q, rfl⟩
      have hBc := belowN hBb q
      have HRSq : Hid (RowS (w2.drewN q) A ls) := hide (HRS.out.drewN q)
      have HRDq : Hid (RdS (w2.drewN q) (.slice A ls.length c) ls) := hide HR1.out.rd
      generalize w2.drewN q = wB at hBc HRSq HRDq ⊢
      clear HR1 HRS HASC hBb
      obtain ⟨B, hB⟩ : ∃ B, wB.heap.size = B := ⟨_, rfl⟩
      have hB0 := Below.refl B wB
      go_wp2
      go_loopw [10, 46] (fun v iv wr => ∃ (v0 : Value) (i : Nat) (ns : List ByteArray), v0 = v ∧ iv = .int .i64 i ∧ i ≤ ls.length ∧ Strs wr B v0 ns ∧ ns.length ≤ i * 16 ∧ Hid (∀ z, z ∈ ns ↔ delsOf ls i z) ∧ Below B wB wr) (fun _ iv _ => ls.length - (intOf iv).toNat)
      case atStart => exact ⟨_, 0, [], rfl, rfl, Nat.zero_le _, Strs.nil_ _ _, Nat.zero_le _, hide fun z => by simp [delsOf], hB0⟩
      case round =>
        obtain ⟨v0, i, ns, rfl, rfl, hi, hrow, hnl, hN, hBw⟩ := hrel
        clear hB0
        have hRw := HRSq.out.below (by rw [hB]; exact hBw)
        have hBs : B ≤ wr.heap.size := by have := hBw.size; omega
        by_cases hlt : i < ls.length
        · obtain ⟨a, rfl, ha, hcell⟩ := hRw (by omega)
          have c1 := hcell i hlt
          obtain ⟨x, hx⟩ : ∃ x, x = ls[i] := ⟨_, rfl⟩
          have hPx := (HL.out.2 _).1 (List.getElem_mem hlt)
          rw [← hx] at c1 hPx
          have HX := hide hx
          have hxl : x.size + k = s.size := by
            have := hPx.2
            simpa using this
          have hx9 : x.size ≤ 9 := by omega
          have hi0 : (0 : Int) ≤ (i : Int) := by omega
          have hi1 : (i : Int) < (ls.length : Int) := by omega
          have hne : ((x.size : Int) != (s.size : Int) - (k : Int)) = false := by rw [bne_eq_false_iff_eq]; omega
          have S1 := hide (fun W => sub_any x s (by unfold maxLen; omega) ws W)
          have HPX := hide hPx
          have D1 := fun W => del_any x W
          rw [ck_one ⟨by omega, chk_sub hPx.1 (by simp; omega) HS0.out⟩] at D1
          have DD := hide D1
          have HR := hide hrow
          clear hcell hx hPx D1 hRw hrow hxl
          go_wp2_with fail
          refine (S1.out _).mono ?_
          rintro e w3 ⟨⟨b1, rfl, hb1⟩, q1, rfl⟩
          obtain rfl : b1 = true := hb1.2 HPX.out.1
          clear hb1 S1
          go_wp2_with fail
          refine (DD.out _).mono ?_
          rintro e w4 ⟨v4, rfl, ⟨rs, hrs, hrs1, _⟩, hB4⟩
          have hdr := hrs1 trivial
          have hrl := delRes_len hdr
          have hrow4 : Strs w4 B v0 ns := Strs.below (w := wr.drewN q1) (HR.out.drewN q1) hB4
          have hBx : Below B wB w4 := (belowN hBw q1).trans (hB4.mono hBs)
          have hBs4 : B ≤ w4.heap.size := by have := hBx.size; omega
          have hsl := hide (strs_sl hrs)
          have HDR := hide hdr
          clear hrs hrs1 hdr hB4 DD HR
          go_wp2_with (at_builtin; refine wpList_app_sl rfl _ _ rfl B v0 _ rfl hrow4 _ rs rfl hsl.out (by omega) hBs4 ?_; intro v5 w5 hown5 hg5 hn5; have hBy := hBx.grown hg5 hBs4 (fun _ hk => (World.ownsRow.lt hrow4 _ hk).1))
          have HN2 := hide (delsOf_step hlt hN.out (by rw [← HX.out]; exact HDR.out))
          have hl5 : (ns ++ rs).length ≤ (i + 1) * 16 := by rw [List.length_append]; omega
          clear hn5 hg5 hrow4
          go_roundw
          case rel => exact ⟨v5, i + 1, ns ++ rs, rfl, by go_num, hlt, hown5, hl5, HN2, hBy⟩
          case measure => simp [intOf]; omega
        · obtain rfl : i = ls.length := by omega
          have HRDw : Hid (RdS wr (.slice A ls.length c) ls) := hide (rdS_below HRDq.out (by rw [hB]; exact hBw))
          have CN := con_any ls t A c wr hRw (by omega)
          clear hRw
          by_cases htl : t.size + k = s.size
          · have hte : ((t.size : Int) == (s.size : Int) - (k : Int)) = true := by rw [beq_iff_eq]; omega
            obtain ⟨hb, hhb⟩ : ∃ hb, hb = hasB t ls := ⟨_, rfl⟩
            rw [← hhb] at CN
            have HHB := hide (show hb = true ↔ t.data.toList.Sublist s.data.toList by
              rw [hhb, hasB_iff, HL.out.2]
              unfold Pj
              constructor
              · rintro ⟨h, _⟩; exact h
              · intro h; exact ⟨h, by simpa using htl⟩)
            have HCN := hide CN
            have S1 := hide (fun W => sub_any t s wt ws W)
            clear hhb CN htl
            go_wp2_with fail
            refine HCN.out.mono ?_
            rintro e w3 ⟨rfl, q1, rfl⟩
            go_wp2_with fail
            refine (S1.out _).mono ?_
            rintro e w4 ⟨⟨b1, rfl, hb1⟩, q2, rfl⟩
            obtain rfl : hb = b1 := Bool.eq_iff_iff.2 (HHB.out.trans hb1.symm)
            clear hb1 HHB HCN S1
            by_cases hks2 : k = s.size
            · have hkk : ((k : Int) == (s.size : Int)) = true := by rw [beq_iff_eq]; omega
              have hle : ls = [⟨#[]⟩] := ball_end (by rw [← hks2]; exact HL.out)
              have EQ := hide (slEq_of ls [⟨#[]⟩] (.slice A ls.length c) (.slice (some ⟨wr.heap.size, 0, none⟩) 1 1) ((wr.drewN (q1 + q2)).alloc (Obj.cells #[.string ⟨#[]⟩] 9)) (rdS_below (w := wr.drewN (q1 + q2)) HRDw.out ((Below.refl (wr.drewN (q1 + q2)).heap.size (wr.drewN (q1 + q2))).alloc (Nat.le_refl _) _)) (Strs.rd (Strs.one_ rfl (Nat.le_refl _) ⟨#[]⟩)) (by omega) hle)
              have hBe := hBc.trans (((belowN hBw (q1 + q2)).alloc (by simpa using hBs) (Obj.cells #[.string ⟨#[]⟩] 9)).mono (by have := hBc.size; omega))
              clear hle hks2
              go_wp2_with fail
              refine EQ.out.mono ?_
              rintro e w5 ⟨rfl, q5, rfl⟩
              have hBf := belowN hBe q5
              clear EQ hBe
              go_wp2_with (go_at_call 24; refine (awake47_any _).mono ?_; rintro e w10 ⟨rfl, hB10⟩)
              go_ret
              exact ⟨rfl, below2 hBf hB10⟩
            · have hkk : ((k : Int) == (s.size : Int)) = false := by rw [beq_eq_false_iff_ne]; omega
              have hkl : k + 1 ≤ s.size := by omega
              have SO := hide (sort_any B v0 ns (wr.drewN (q1 + q2)) (hrow.drewN (q1 + q2)) (by omega))
              have C2 := fun W => ball_any s ((k : Int) + 1) (by omega) (.inl (by omega)) W
              rw [bErr_of ⟨by omega, HS0.out⟩ (by omega) (by omega)] at C2
              have H2 := hide C2
              have hBq := belowN hBw (q1 + q2)
              have HRW := hide hrow
              clear C2 hrow hBw hks2
              go_wp2_with fail
              refine SO.out.mono ?_
              rintro e w5 ⟨rfl, zs, hz, hzm, hzl, hrow5, hg5⟩
              have hB5 := hBq.grown hg5 hBs (fun _ hk => (World.ownsRow.lt (HRW.out.drewN (q1 + q2)) _ hk).1)
              have HZ := hide hz
              have HZM := hide hzm
              clear SO hBq hg5 hz hzm
              go_wp2_with fail
              refine (H2.out _).mono ?_
              rintro e w6 ⟨v6, rfl, ⟨ms, hrow6, hres6, _⟩, hB6⟩
              have hM := hres6 trivial
              rw [show ((k : Int) + 1).toNat = k + 1 by omega] at hM
              have hml : ms.length ≤ 4096 := asc_le (s := s) (by omega) hM.1 (fun z hz => ((hM.2 z).1 hz).1)
              have HM := hide hM
              have hrow5' := hrow5.below hB6
              have hB5s : B ≤ w5.heap.size := by have := hB5.size; omega
              have hB7 := hB5.trans (hB6.mono hB5s)
              have HLT := hide (fun g hg => (World.ownsRow.lt hrow5 g hg).2)
              have CP := hide (compact_any B v0 zs w6 hrow5' HZ.out (by omega))
              have HR5 := hide hrow5'
              clear hres6 hM hrow5 hrow5' H2 HRW
              go_wp2_with fail
              refine CP.out.mono ?_
              rintro e w7 ⟨v7, cs, rfl, hrow7, hasc, hcm, hcl, hg7⟩
              have hrow6' := hrow6.kept_ hg7 (fun g hg => HLT.out g hg)
              have hB6s : B ≤ w6.heap.size := by have := hB7.size; omega
              have hB8 := hB7.grown hg7 hB6s (fun _ hk => (World.ownsRow.lt HR5.out _ hk).1)
              have hmc : ms = cs := asc_eq HM.out.1 hasc fun z => by
                rw [HM.out.2 z, hcm z, HZM.out z]
                exact (ball_step HL.out.2 hN.out z).symm
              have EQ := hide (slEq_of ms cs v6 v7 w7 hrow6'.rd hrow7.rd (by omega) hmc)
              have hB9 := hBc.trans (hB8.mono (by have := hBc.size; omega))
              clear hrow6 hrow6' hrow7 hasc hcm hcl hg7 hmc CP HR5 HLT hB5 hB6 hB7 hB8
              go_wp2_with fail
              refine EQ.out.mono ?_
              rintro e w8 ⟨rfl, q8, rfl⟩
              have hBf := belowN hB9 q8
              clear EQ hB9
              go_wp2_with (go_at_call 24; refine (awake47_any _).mono ?_; rintro e w10 ⟨rfl, hB10⟩)
              go_ret
              exact ⟨rfl, below2 hBf hB10⟩
          · have hte : ((t.size : Int) == (s.size : Int) - (k : Int)) = false := by rw [beq_eq_false_iff_ne]; omega
            have hnb : hasB t ls = false := hasB_no (fun h => htl (by have := ((HL.out.2 _).1 h).2; simpa using this))
            rw [hnb] at CN
            have HCN := hide CN
            clear CN htl hnb
            go_wp2_with fail
            refine HCN.out.mono ?_
            rintro e w3 ⟨rfl, q1, rfl⟩
            clear HCN
            by_cases hks2 : k = s.size
            · have hkk : ((k : Int) == (s.size : Int)) = true := by rw [beq_iff_eq]; omega
              have hle : ls = [⟨#[]⟩] := ball_end (by rw [← hks2]; exact HL.out)
              have EQ := hide (slEq_of ls [⟨#[]⟩] (.slice A ls.length c) (.slice (some ⟨wr.heap.size, 0, none⟩) 1 1) ((wr.drewN q1).alloc (Obj.cells #[.string ⟨#[]⟩] 9)) (rdS_below (w := wr.drewN q1) HRDw.out ((Below.refl (wr.drewN q1).heap.size (wr.drewN q1)).alloc (Nat.le_refl _) _)) (Strs.rd (Strs.one_ rfl (Nat.le_refl _) ⟨#[]⟩)) (by omega) hle)
              have hBe := hBc.trans (((belowN hBw q1).alloc (by simpa using hBs) (Obj.cells #[.string ⟨#[]⟩] 9)).mono (by have := hBc.size; omega))
              clear hle hks2
              go_wp2_with fail
              refine EQ.out.mono ?_
              rintro e w5 ⟨rfl, q5, rfl⟩
              have hBf := belowN hBe q5
              clear EQ hBe
              go_wp2_with (go_at_call 24; refine (awake47_any _).mono ?_; rintro e w10 ⟨rfl, hB10⟩)
              go_ret
              exact ⟨rfl, below2 hBf hB10⟩
            · have hkk : ((k : Int) == (s.size : Int)) = false := by rw [beq_eq_false_iff_ne]; omega
              have hkl : k + 1 ≤ s.size := by omega
              have SO := hide (sort_any B v0 ns (wr.drewN q1) (hrow.drewN q1) (by omega))
              have C2 := fun W => ball_any s ((k : Int) + 1) (by omega) (.inl (by omega)) W
              rw [bErr_of ⟨by omega, HS0.out⟩ (by omega) (by omega)] at C2
              have H2 := hide C2
              have hBq := belowN hBw q1
              have HRW := hide hrow
              clear C2 hrow hBw hks2
              go_wp2_with fail
              refine SO.out.mono ?_
              rintro e w5 ⟨rfl, zs, hz, hzm, hzl, hrow5, hg5⟩
              have hB5 := hBq.grown hg5 hBs (fun _ hk => (World.ownsRow.lt (HRW.out.drewN q1) _ hk).1)
              have HZ := hide hz
              have HZM := hide hzm
              clear SO hBq hg5 hz hzm
              go_wp2_with fail
              refine (H2.out _).mono ?_
              rintro e w6 ⟨v6, rfl, ⟨ms, hrow6, hres6, _⟩, hB6⟩
              have hM := hres6 trivial
              rw [show ((k : Int) + 1).toNat = k + 1 by omega] at hM
              have hml : ms.length ≤ 4096 := asc_le (s := s) (by omega) hM.1 (fun z hz => ((hM.2 z).1 hz).1)
              have HM := hide hM
              have hrow5' := hrow5.below hB6
              have hB5s : B ≤ w5.heap.size := by have := hB5.size; omega
              have hB7 := hB5.trans (hB6.mono hB5s)
              have HLT := hide (fun g hg => (World.ownsRow.lt hrow5 g hg).2)
              have CP := hide (compact_any B v0 zs w6 hrow5' HZ.out (by omega))
              have HR5 := hide hrow5'
              clear hres6 hM hrow5 hrow5' H2 HRW
              go_wp2_with fail
              refine CP.out.mono ?_
              rintro e w7 ⟨v7, cs, rfl, hrow7, hasc, hcm, hcl, hg7⟩
              have hrow6' := hrow6.kept_ hg7 (fun g hg => HLT.out g hg)
              have hB6s : B ≤ w6.heap.size := by have := hB7.size; omega
              have hB8 := hB7.grown hg7 hB6s (fun _ hk => (World.ownsRow.lt HR5.out _ hk).1)
              have hmc : ms = cs := asc_eq HM.out.1 hasc fun z => by
                rw [HM.out.2 z, hcm z, HZM.out z]
                exact (ball_step HL.out.2 hN.out z).symm
              have EQ := hide (slEq_of ms cs v6 v7 w7 hrow6'.rd hrow7.rd (by omega) hmc)
              have hB9 := hBc.trans (hB8.mono (by have := hBc.size; omega))
              clear hrow6 hrow6' hrow7 hasc hcm hcl hg7 hmc CP HR5 HLT hB5 hB6 hB7 hB8
              go_wp2_with fail
              refine EQ.out.mono ?_
              rintro e w8 ⟨rfl, q8, rfl⟩
              have hBf := belowN hB9 q8
              clear EQ hB9
              go_wp2_with (go_at_call 24; refine (awake47_any _).mono ?_; rintro e w10 ⟨rfl, hB10⟩)
              go_ret
              exact ⟨rfl, below2 hBf hB10⟩
end Go.Proofs.Ytmajalpmbppkpaa
