/- grooveref47.Deletions, Ball: their contracts. -/
import Derived.Test.YtmajalpmbppkpaaRDel
import Derived.Test.YtmajalpmbppkpaaConP
set_option linter.unusedVariables false
namespace Go.Proofs.Ytmajalpmbppkpaa
open Go.RowKit
theorem ckl_single (s : ByteArray) : ckl [s] = if s.size ≤ 256 then chk 16 s.data.toList else 4 := by
  unfold ckl
  by_cases h : s.size ≤ 256
  · rw [if_pos (by simp [h]), if_pos h]
    simp only [ckf]
    split
    · rename_i h; exact h.symm
    · rfl
  · rw [if_neg (by simpa using h), if_neg h]
theorem rchk_one (s : ByteArray) (w : World) : Calls Try.prog 80 #[.int .i64 16, .string s] w fun e w' => e = .returned (.int .i64 (ckl [s])) ∧ w = w' := by
  rw [ckl_single]; exact rchk_any s w
theorem Strs.below {w w' : World} {B : Nat} {v : Value} {xs : List ByteArray} (h : Strs w B v xs) (hB : Below w.heap.size w w') : Strs w' B v xs := by
  unfold Strs World.ownsRow at h ⊢
  refine ⟨h.1, ?_⟩
  rcases h.2 with h' | ⟨g, cap, cur, h1, h2, h3, h4⟩
  · exact .inl h'
  · refine .inr ⟨g, cap, cur, h1, h2, (hB.block g ?_).trans h3, h4⟩
    rcases Nat.lt_or_ge g w.heap.size with hlt | hge
    · exact hlt
    · rw [Array.getElem?_eq_none hge] at h3; cases h3
theorem Row1.below {w w' : World} {B : Nat} {v : Value} {xs : List ByteArray} (h : Row1 w B v xs) (hB : Below w.heap.size w w') : Row1 w' B v xs := ⟨h.1.below hB, h.2⟩
theorem RowS.cell {w : World} {g : Nat} {xs : List ByteArray} (h : RowS w (some ⟨g, 0, none⟩) xs) {k : Nat} (hk : k < xs.length) : g < w.heap.size ∧ w.cell? ⟨g, k, none⟩ = some (.string xs[k]) := by
  obtain ⟨a, e, h1, h2⟩ := h (by omega)
  cases e
  refine ⟨h1, ?_⟩
  rw [← h2 k hk, show (⟨g, 0, none⟩ : Addr).add k = ⟨g, k, none⟩ by simp [Addr.add]; omega]
set_option maxRecDepth 100000 in
set_option maxHeartbeats 1000000 in
theorem rdel_any (s : ByteArray) (w : World) :
    Calls Try.prog 47 #[.string s] w fun e w' => ∃ vl, e = .returned (.tuple #[vl, .int .i64 (ckl [s])]) ∧ (∃ rs, Strs w' w.heap.size vl rs ∧ (ckl [s] = 0 → DelRes s rs) ∧ (ckl [s] ≠ 0 → rs = [])) ∧ Below w.heap.size w w' := by
  have C0 := fun W => rchk_one s W
  by_cases hc : ckl [s] = 0
  · have hs : s.size ≤ 256 := ckl_sizes hc s (by simp)
    rw [hc] at C0
    have H0 := hide C0
    have HC := hide hc
    have HD := hide (fun W => rdels_any s (by omega) W)
    clear C0 hc
    go_enter Try.func47, Try.ntmps47
    go_wp2_with fail
    refine (H0.out _).mono ?_
    rintro e w1 ⟨rfl, rfl⟩
    go_wp2_with fail
    refine (HD.out _).mono ?_
    rintro e w2 ⟨v, ys, rfl, hrow, hres, hyl, hB2⟩
    go_wp2
    go_ret2
    exact ⟨v, by rw [HC.out]; rfl, ⟨ys, hrow.1, fun _ => hres, fun h => absurd HC.out h⟩, hB2⟩
  · have h7 : (ckl [s] != 0) = true := by simpa using hc
    have HC := hide hc
    obtain ⟨z, hz⟩ : ∃ z, z = ckl [s] := ⟨_, rfl⟩
    rw [← hz] at h7 C0 ⊢
    have HZ := hide hz
    have H0 := hide C0
    clear hc hz C0
    go_enter Try.func47, Try.ntmps47
    go_wp2_with fail
    refine (H0.out _).mono ?_
    rintro e w1 ⟨rfl, rfl⟩
    go_wp2
    go_ret2
    exact ⟨_, rfl, ⟨[], Strs.nil_ _ _, fun h => absurd (HZ.out ▸ h) HC.out, fun _ => rfl⟩, Below.refl _ _⟩
def Asc (xs : List ByteArray) : Prop := xs.Pairwise (fun a b => a.data.toList < b.data.toList)
theorem asc_len {s : ByteArray} {rs : List ByteArray} (h : Asc rs) (hs : ∀ z ∈ rs, z.data.toList.Sublist s.data.toList) : rs.length ≤ 2 ^ s.size := by
  have hn : (rs.map fun y => y.data.toList).Nodup := List.pairwise_map.2 ((show List.Pairwise (fun a b : ByteArray => a.data.toList < b.data.toList) rs from h).imp fun {a b} (hlt : a.data.toList < b.data.toList) (e : a.data.toList = b.data.toList) => by rw [e] at hlt; exact List.lt_irrefl _ hlt)
  have h1 := len_subset (m := subs s.data.toList) hn (fun x hx => by
    obtain ⟨y, hy, rfl⟩ := List.mem_map.1 hx
    exact mem_subs (hs y hy))
  rw [subs_len, List.length_map] at h1
  simpa using h1
theorem asc_le {s : ByteArray} {rs : List ByteArray} (hs12 : s.size ≤ 12) (h : Asc rs) (hs : ∀ z ∈ rs, z.data.toList.Sublist s.data.toList) : rs.length ≤ 4096 := by
  have h1 := asc_len h hs
  have h2 := Nat.pow_le_pow_right (show 0 < 2 by omega) hs12
  omega
/-- what the deletions of the first k words of a list are -/
def delsOf (ls : List ByteArray) (k : Nat) (z : ByteArray) : Prop := ∃ i, ∃ h : i < ls.length, i < k ∧ ∃ j, j < ls[i].size ∧ z = delB ls[i] j
theorem delB_sub (s : ByteArray) (j : Nat) : (delB s j).data.toList.Sublist s.data.toList := by rw [delB_list]; exact DL_sub _ _
theorem delRes_mem {s z : ByteArray} {ys : List ByteArray} (h : DelRes s ys) : z ∈ ys ↔ ∃ j, j < s.size ∧ z = delB s j := by
  rw [h.2, dels_mem]
  constructor
  · rintro ⟨j, hj, e⟩
    exact ⟨j, by simpa using hj, ba_ext (by rw [e, delB_list]; rfl)⟩
  · rintro ⟨j, hj, rfl⟩
    exact ⟨j, by simpa using hj, by rw [delB_list]; rfl⟩
theorem ball_step {s : ByteArray} {i : Nat} {ls ns : List ByteArray} (hl : ∀ z, z ∈ ls ↔ Pj s.data.toList i z.data.toList) (hn : ∀ z, z ∈ ns ↔ delsOf ls ls.length z) : ∀ z, z ∈ ns ↔ Pj s.data.toList (i + 1) z.data.toList := by
  intro z
  rw [hn z, ← Pj_step]
  constructor
  · rintro ⟨k, hk, _, j, hj, rfl⟩
    exact ⟨ls[k].data.toList, (hl _).1 (List.getElem_mem hk), j, by simpa using hj, by rw [delB_list]; rfl⟩
  · rintro ⟨y, hy, j, hj, e⟩
    have hm : (⟨y.toArray⟩ : ByteArray) ∈ ls := (hl _).2 (by simpa using hy)
    obtain ⟨k, hk, hky⟩ := List.getElem_of_mem hm
    refine ⟨k, hk, hk, j, ?_, ba_ext ?_⟩
    · rw [hky]; simpa [ByteArray.size] using hj
    · rw [delB_list, hky, e]; rfl
set_option maxRecDepth 100000 in
set_option maxHeartbeats 4000000 in
theorem rball_ok (s : ByteArray) (n : Nat) (hs : s.size ≤ 12) (hn : n ≤ s.size) (hc : ckl [s] = 0) (w : World) :
    Calls Try.prog 49 #[.string s, .int .i64 (n : Int)] w fun e w' => ∃ vl, e = .returned (.tuple #[vl, .int .i64 0]) ∧ (∃ rs, Strs w' w.heap.size vl rs ∧ BallRes s n rs) ∧ Below w.heap.size w w' := by
  obtain ⟨B, hB⟩ : ∃ B, w.heap.size = B := ⟨_, rfl⟩
  have C0 := fun W => rchk_one s W
  rw [hc] at C0
  have H0 := hide C0
  have h2 : ¬ (s.size : Int) < (n : Int) := by omega
  have hr0 : Row1 (w.alloc (Obj.cells #[.string s] 9)) B (.slice (some ⟨B, 0, none⟩) 1 1) [s] := ⟨Strs.one_ hB (Nat.le_refl _) s, by simp⟩
  have hB0 := (Below.refl B w).alloc (by omega) (Obj.cells #[.string s] 9)
  have hM0 : ∀ z, z ∈ [s] ↔ Pj s.data.toList 0 z.data.toList := fun z => by
    unfold Pj
    rw [List.mem_singleton]
    constructor
    · rintro rfl; exact ⟨List.Sublist.refl _, rfl⟩
    · rintro ⟨h1, h2⟩; exact ba_ext (h1.eq_of_length h2)
  have HM0 := hide hM0
  clear C0 hc hM0
  go_enter Try.func49, Try.ntmps49
  go_wp2_with fail
  refine (H0.out _).mono ?_
  rintro e w1 ⟨rfl, rfl⟩
  go_wp2
  go_loopw [7, 8] (fun v iv wr => ∃ (v0 : Value) (i : Nat) (ls : List ByteArray), v0 = v ∧ iv = .int .i64 i ∧ i ≤ n ∧ Row1 wr B v0 ls ∧ Hid (Asc ls ∧ ∀ z, z ∈ ls ↔ Pj s.data.toList i z.data.toList) ∧ Below B w wr) (fun _ iv _ => n - (intOf iv).toNat)
  case atStart => exact ⟨_, 0, [s], rfl, rfl, Nat.zero_le _, hr0, hide ⟨List.pairwise_singleton _ _, HM0.out⟩, hB0⟩
  case round =>
    obtain ⟨v0, i, ls, rfl, rfl, hi, hrow, hL, hBw⟩ := hrel
    clear hr0 hB0 HM0
    by_cases hlt : i < n
    · obtain ⟨g, c, rfl, hc1, hcm, hBg, hgs, hcell⟩ := hrow.form
      have hll := asc_le hs hL.out.1 (fun z hz => ((hL.out.2 z).1 hz).1)
      have HRS : Hid (RowS wr (some ⟨g, 0, none⟩) ls) := by
        obtain ⟨A, c', e, h⟩ := strs_row hrow.1
        cases e
        exact hide h
      have hBs : B ≤ wr.heap.size := by have := hBw.size; omega
      have hr1 : Row1 (wr.alloc (Obj.cells #[] 9)) B (.slice (some ⟨wr.heap.size, 0, none⟩) 0 0) [] := ⟨Strs.empty_ rfl hBs, by simp⟩
      have hB1 := hBw.alloc hBs (Obj.cells #[] 9)
      have HRS1 := hide (HRS.out.below ((Below.refl wr.heap.size wr).alloc (Nat.le_refl _) (Obj.cells #[] 9)))
      clear hrow hcell HRS hgs hBg hc1 hcm
      go_wp2
      go_loopw [9, 10] (fun v kv wr => ∃ (v0 : Value) (k : Nat) (ns : List ByteArray), v0 = v ∧ kv = .int .i64 k ∧ k ≤ ls.length ∧ Row1 wr B v0 ns ∧ Hid (Asc ns ∧ ∀ z, z ∈ ns ↔ delsOf ls k z) ∧ Hid (RowS wr (some ⟨g, 0, none⟩) ls) ∧ Below B w wr) (fun _ kv _ => ls.length - (intOf kv).toNat)
      case atStart => exact ⟨_, 0, [], rfl, rfl, Nat.zero_le _, hr1, hide ⟨List.Pairwise.nil, fun z => by simp [delsOf]⟩, HRS1, hB1⟩
      case round =>
        obtain ⟨v0, k, ns, rfl, rfl, hk, hrow, hN, hRS, hBk⟩ := hrel
        clear hr1 hB1 HRS1 hBw hBs
        by_cases hlk : k < ls.length
        · have c1 := (hRS.out.cell hlk).2
          obtain ⟨x, hx⟩ : ∃ x, x = ls[k] := ⟨_, rfl⟩
          rw [← hx] at c1
          have HX := hide hx
          have hxs : x.data.toList.Sublist s.data.toList := by rw [hx]; exact ((hL.out.2 _).1 (List.getElem_mem hlk)).1
          have hx12 : x.size ≤ 12 := by
            have := hxs.length_le
            simp at this
            omega
          have HXS := hide hxs
          have hk0 : (0 : Int) ≤ (k : Int) := by omega
          have hk1 : (k : Int) < (ls.length : Int) := by omega
          have HD := hide (fun W => rdels_any x (by omega) W)
          have HR := hide hrow
          have hBs : B ≤ wr.heap.size := by have := hBk.size; omega
          clear hx hxs hrow
          go_wp2_with fail
          refine (HD.out _).mono ?_
          rintro e w2 ⟨v2, ds, rfl, hrow2, hres2, hyl2, hB2⟩
          obtain ⟨g2, c2, rfl, hc21, hcm2, hBg2, hgs2, hcell2⟩ := hrow2.form
          have HRS2 : Hid (RowS w2 (some ⟨g2, 0, none⟩) ds) := by
            obtain ⟨A, c', e, h⟩ := strs_row hrow2.1
            cases e
            exact hide h
          have hr3 := HR.out.below hB2
          have HRS3 := hide (hRS.out.below hB2)
          have hB3 := hBk.trans (hB2.mono hBs)
          have HDM := hide (fun z => @delRes_mem x z ds hres2)
          clear hrow2 hres2 hcell2 hBg2 hgs2 hc21 hcm2 HR hRS hBk hB2 HD c1
          go_wp2
          go_loopw [9, 12] (fun v jv wr => ∃ (v0 : Value) (j : Nat) (ms : List ByteArray), v0 = v ∧ jv = .int .i64 j ∧ j ≤ ds.length ∧ Row1 wr B v0 ms ∧ Hid (Asc ms ∧ ∀ z, z ∈ ms ↔ z ∈ ns ∨ ∃ j', ∃ h : j' < ds.length, j' < j ∧ z = ds[j']) ∧ Hid (RowS wr (some ⟨g, 0, none⟩) ls) ∧ Hid (RowS wr (some ⟨g2, 0, none⟩) ds) ∧ Below B w wr) (fun _ jv _ => ds.length - (intOf jv).toNat)
          case atStart => exact ⟨_, 0, ns, rfl, rfl, Nat.zero_le _, hr3, hide ⟨hN.out.1, fun z => by simp⟩, HRS3, HRS2, hB3⟩
          case round =>
            obtain ⟨v0, j, ms, rfl, rfl, hj, hrow, hM, hRS, hRS2, hBj⟩ := hrel
            clear hr3 HRS3 HRS2 hB3
            have hml : ms.length ≤ 4096 := asc_le hs hM.out.1 (fun z hz => by
              rcases (hM.out.2 z).1 hz with h | ⟨j', h, _, rfl⟩
              · obtain ⟨i', hi', _, j2, hj2, rfl⟩ := (hN.out.2 z).1 h
                exact (delB_sub _ _).trans ((hL.out.2 _).1 (List.getElem_mem hi')).1
              · obtain ⟨j2, hj2, e⟩ := (HDM.out _).1 (List.getElem_mem h)
                rw [e]
                exact (delB_sub _ _).trans HXS.out)
            by_cases hlj : j < ds.length
            · have c1 := (hRS2.out.cell hlj).2
              obtain ⟨y, hy⟩ : ∃ y, y = ds[j] := ⟨_, rfl⟩
              rw [← hy] at c1
              have HY := hide hy
              have hj0 : (0 : Int) ≤ (j : Int) := by omega
              have hj1 : (j : Int) < (ds.length : Int) := by omega
              have hBs2 : B ≤ wr.heap.size := by have := hBj.size; omega
              have HA := hide (add_any B v0 ms y wr hrow (by omega) hBs2 hM.out.1)
              clear hrow hy
              go_wp2_with fail
              refine HA.out.mono ?_
              rintro e w3 ⟨v3, ms3, rfl, hrow3, hres3, hB4⟩
              have HM3 := hide (show Asc ms3 ∧ ∀ z, z ∈ ms3 ↔ z ∈ ns ∨ ∃ j', ∃ h : j' < ds.length, j' < j + 1 ∧ z = ds[j'] from ⟨hres3.1, fun z => by
                rw [hres3.2.1 z, hM.out.2 z]
                constructor
                · rintro ((h | ⟨j', h, h', rfl⟩) | rfl)
                  · exact .inl h
                  · exact .inr ⟨j', h, by omega, rfl⟩
                  · exact .inr ⟨j, hlj, by omega, HY.out⟩
                · rintro (h | ⟨j', h, h', rfl⟩)
                  · exact .inl (.inl h)
                  · rcases Nat.lt_or_ge j' j with h2 | h2
                    · exact .inl (.inr ⟨j', h, h2, rfl⟩)
                    · obtain rfl : j' = j := by omega
                      exact .inr HY.out.symm⟩)
              have HRSa := hide (hRS.out.below hB4)
              have HRSb := hide (hRS2.out.below hB4)
              clear hres3 HA hM hRS hRS2
              go_wp2
              go_roundw
              case rel => exact ⟨v3, j + 1, ms3, rfl, by go_num, hlj, hrow3, HM3, HRSa, HRSb, hBj.trans (hB4.mono hBs2)⟩
              case measure => simp [intOf]; omega
            · obtain rfl : j = ds.length := by omega
              have HM3 := hide (show Asc ms ∧ ∀ z, z ∈ ms ↔ delsOf ls (k + 1) z from ⟨hM.out.1, fun z => by
                rw [hM.out.2 z, hN.out.2 z]
                constructor
                · rintro (⟨i', hi', h1, h2⟩ | ⟨j', h, _, rfl⟩)
                  · exact ⟨i', hi', by omega, h2⟩
                  · obtain ⟨j2, hj2, e⟩ := (HDM.out _).1 (List.getElem_mem h)
                    exact ⟨k, hlk, by omega, j2, by rw [← HX.out]; exact hj2, by rw [e, HX.out]⟩
                · rintro ⟨i', hi', h1, j2, hj2, rfl⟩
                  rcases Nat.lt_or_ge i' k with h | h
                  · exact .inl ⟨i', hi', h, j2, hj2, rfl⟩
                  · obtain rfl : i' = k := by omega
                    have := (HDM.out (delB x j2)).2 ⟨j2, by rw [HX.out]; exact hj2, rfl⟩
                    obtain ⟨j', h', e⟩ := List.getElem_of_mem this
                    exact .inr ⟨j', h', h', by rw [e, HX.out]⟩⟩)
              obtain ⟨g3, c3, e3, _⟩ := hrow.form
              subst e3
              have HR3 := hide hrow
              have hcmp : ¬ (4096 : Int) < (ms.length : Int) := by omega
              clear hrow hM
              go_wp2
              go_roundw
              case rel =>
                refine ⟨_, _, _, .int .i64 ((k + 1 : Nat) : Int), ?_, rfl, rfl, rfl, by go_num⟩
                exact ⟨k + 1, rfl, hlk, ms, HR3.out, HM3⟩
              case measure => simp [intOf]; omega
        · obtain rfl : k = ls.length := by omega
          have HL2 := hide (show Asc ns ∧ ∀ z, z ∈ ns ↔ Pj s.data.toList (i + 1) z.data.toList from ⟨hN.out.1, ball_step hL.out.2 hN.out.2⟩)
          go_wp2
          go_roundw
          case rel => exact ⟨v0, i + 1, ns, rfl, by go_num, hlt, hrow, HL2, hBk⟩
          case measure => simp [intOf]; omega
    · obtain rfl : i = n := by omega
      go_wp2
      go_ret2
      exact ⟨v0, rfl, ⟨ls, by rw [hB]; exact hrow.1, hL.out⟩, by rw [hB]; exact hBw⟩
end Go.Proofs.Ytmajalpmbppkpaa
