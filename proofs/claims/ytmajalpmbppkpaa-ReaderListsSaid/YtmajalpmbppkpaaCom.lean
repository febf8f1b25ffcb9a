/- indel.Common: its contract for any strings. -/
import Derived.Test.YtmajalpmbppkpaaComP
import Derived.Test.YtmajalpmbppkpaaBld
import Derived.BigQuiet
set_option linter.unusedVariables false
namespace Go.Proofs.Ytmajalpmbppkpaa
open Go.RowKit
theorem okc_lets : ∀ c : Fin 256, okc 16 (UInt8.ofNat c.1) = true → UInt8.ofNat c.1 ∈ lets := by decide +kernel
theorem okc_mem {c : UInt8} (h : okc 16 c = true) : c ∈ lets := by
  have := okc_lets ⟨c.toNat, c.toNat_lt⟩
  simp only [UInt8.ofNat_toNat] at this
  exact this h
theorem chk_all {s : List UInt8} (h : chk 16 s = 0) : ∀ c ∈ s, okc 16 c = true := by
  unfold chk at h
  rw [if_neg (by omega)] at h
  split at h
  · omega
  · split at h
    · rename_i h2
      exact List.all_eq_true.1 h2
    · omega
theorem ckf_all : ∀ {l : List ByteArray}, ckf l = 0 → ∀ s ∈ l, chk 16 s.data.toList = 0
  | [], _, s, hs => by cases hs
  | t :: l, h, s, hs => by
    rw [ckf] at h
    by_cases h1 : chk 16 t.data.toList = 0
    · rw [if_pos h1] at h
      rcases List.mem_cons.1 hs with rfl | hs
      · exact h1
      · exact ckf_all h s hs
    · rw [if_neg h1] at h
      exact absurd h h1
theorem ckl_all {l : List ByteArray} (h : ckl l = 0) : ∀ s ∈ l, chk 16 s.data.toList = 0 := by
  unfold ckl at h
  split at h
  · exact ckf_all h
  · omega
theorem ckl_lets {l : List ByteArray} (h : ckl l = 0) : ∀ s ∈ l, ∀ c ∈ s.data.toList, c ∈ lets :=
  fun s hs c hc => okc_mem (chk_all (ckl_all h s hs) c hc)
def commonV (u v : ByteArray) : ByteArray × Int := if ckl [u, v] = 0 then (⟨(com (u.size + 1) u.data.toList v.data.toList).toArray⟩, 0) else (⟨#[]⟩, ckl [u, v])
theorem tab_st (u v : ByteArray) (hu : u.size ≤ 256) (hv : v.size ≤ 256) (B i k : Nat) (hi : i ≤ u.size) (hk : k ≤ v.size) (I K : Int) (hI : I = i) (hK : K = k) (L : Nat) (hL : L = lcsAt u v i k) (w : World) (h : Tab w B u v) :
    Calls Try.prog 87 #[.int .i64 I, .int .i64 K, .pointer (some ⟨B, 0, none⟩), .pointer (some ⟨B + 1, 0, none⟩), .pointer (some ⟨B + 3, 0, none⟩), .pointer (some ⟨B + 4, 0, none⟩)] w
      fun e w' => e = .returned (.int .i64 (L : Int)) ∧ Tab w' B u v ∧ One (B + 2) w w' := by
  subst hI hK hL
  exact tab_at u v hu hv B (u.size + v.size) i k hi hk (by omega) w h
theorem Tab.drewN {w : World} {B : Nat} {u v : ByteArray} (h : Tab w B u v) (n : Nat) : Tab (w.drewN n) B u v := ⟨h.hu, h.hv, h.hk, h.ha, h.hd⟩
theorem isB_one {w w' : World} {b g : Nat} {bs : List Value} (h : Lib.IsBuilder 87 5 b b bs w) (hO : One g w w') (hg : g < b) : Lib.IsBuilder 87 5 b b bs w' := by
  have key : ∀ p, Lib.BuilderAt 87 5 b b p bs w → Lib.BuilderAt 87 5 b b p bs w' := by
    rintro p ⟨h1, v, h2, h3, h4⟩
    refine ⟨h1, v, (hO.block b (by omega)).trans h2, ?_, h4⟩
    unfold World.ownsRow at h3 ⊢
    refine ⟨h3.1, ?_⟩
    rcases h3.2 with h' | ⟨g', cap, cur, e1, e2, e3, e4⟩
    · exact .inl h'
    · exact .inr ⟨g', cap, cur, e1, e2, (hO.block g' (by omega)).trans e3, e4⟩
  rcases h with h | h
  · exact .inl (key _ h)
  · exact .inr (key _ h)
theorem idx_at (s : ByteArray) (x : UInt8) (l : List UInt8) (hl : s.data.toList = l) (z : Int) (hz : Lib.indexByte l x = z) (w : World) :
    Calls Try.prog 64 #[.string s, .int .u8 (x.toNat : Int)] w fun e w' => e = .returned (.int .i64 z) ∧ w = w' := by
  subst hl hz
  refine (strings_IndexByte _ _ _).mono ?_
  rintro e w' ⟨rfl, rfl⟩
  refine ⟨?_, rfl⟩
  simp
theorem extract_drop (u : ByteArray) (i : Nat) (hi : i ≤ u.size) : (u.extract i u.size).data.toList = u.data.toList.drop i := by
  rw [ByteArray.data_extract, Array.toList_extract, List.extract_eq_drop_take', List.drop_take]
  rw [List.take_of_length_le]
  simp
theorem letsA (c : Nat) (hc : c < 16) (h : c < (⟨#[48, 49, 50, 51, 52, 53, 54, 55, 56, 57, 97, 98, 99, 100, 101, 102]⟩ : ByteArray).size) (h2 : c < lets.length) : (⟨#[48, 49, 50, 51, 52, 53, 54, 55, 56, 57, 97, 98, 99, 100, 101, 102]⟩ : ByteArray)[c] = lets[c] := rfl
set_option maxRecDepth 100000 in
set_option maxHeartbeats 3000000 in
theorem common_any (u v : ByteArray) (w : World) :
    Calls Try.prog 26 #[.string u, .string v] w fun e w' => e = .returned (.tuple #[.string (commonV u v).1, .int .i64 (commonV u v).2]) ∧ Below w.heap.size w w' := by
  have hrow : ∀ k (hk : k < [u, v].length), (w.alloc (Obj.cells #[Value.string u, Value.string v] 9)).cell? ⟨w.heap.size, k, none⟩ = some (.string [u, v][k]) := fun k hk => Strs.cell (Strs.lit w [u, v] (Nat.le_refl _) (by simp) _ rfl) hk
  have HI := icheck_any [u, v] w.heap.size 2 _ hrow (by simp)
  have HB0 := (Below.refl w.heap.size w).alloc (Nat.le_refl _) (Obj.cells #[Value.string u, Value.string v] 9)
  clear hrow
  by_cases hc : ckl [u, v] = 0
  · have hs := ckl_sizes hc
    have hu : u.size ≤ 256 := hs u (by simp)
    have hv : v.size ≤ 256 := hs v (by simp)
    have HW := hide (ckl_lets hc u (by simp))
    have HD := hide (show commonV u v = (⟨(com (u.size + 1) u.data.toList v.data.toList).toArray⟩, 0) by unfold commonV; rw [if_pos hc])
    rw [hc] at HI
    have HII := hide HI
    have HBB := hide HB0
    clear hc hs HI HB0
    obtain ⟨B, hB⟩ : ∃ B, w.heap.size + 1 = B := ⟨_, rfl⟩
    go_enter Try.func26, Try.ntmps26
    go_wp2_with fail
    refine HII.out.mono ?_
    rintro e w1 ⟨rfl, q, rfl⟩
    go_wp2_with fail
    refine (table_b u v hu hv _ B (by simp [hB])).mono ?_
    rintro e w2 ⟨rfl, hT, hB2⟩
    have hB4 := (belowN HBB.out q).trans (hB2.mono (by omega))
    have hb2 : B + 5 ≤ w2.heap.size := by have := lt_of_block hT.ha; omega
    clear HII HBB hB2
    generalize hb0 : w.heap.size = b0 at hB4 hB
    obtain ⟨b, hb⟩ : ∃ b, w2.heap.size = b := ⟨_, rfl⟩
    have hfr : Lib.IsBuilder 87 5 b b [] (w2.alloc (Obj.cells #[.pointer none, .slice none 0 0] 87)) := by rw [← hb]; exact Lib.fresh_isBuilder 87 5 w2
    have hT3 := hT.below ((Below.refl b w2).alloc (by omega) (Obj.cells #[.pointer none, .slice none 0 0] 87)) (by omega)
    have hB5 := hB4.alloc (by omega) (Obj.cells #[.pointer none, .slice none 0 0] 87)
    have hz3 : b ≤ (w2.alloc (Obj.cells #[.pointer none, .slice none 0 0] 87)).heap.size := by rw [← hb]; simp
    clear hT hB4
    go_wp2_with fail
    go_loopw [9, 10] (fun iv kv wr => ∃ (i k f : Nat) (out : List UInt8), iv = .int .i64 i ∧ kv = .int .i64 k ∧ i ≤ u.size ∧ k ≤ v.size ∧ u.size - i < f ∧ out.length ≤ i ∧
      Hid (com (u.size + 1) u.data.toList v.data.toList = out ++ com f (u.data.toList.drop i) (v.data.toList.drop k)) ∧ Tab wr B u v ∧ Lib.IsBuilder 87 5 b b (Lib.byteCells out) wr ∧ Below b0 w wr ∧ b ≤ wr.heap.size)
      (fun iv _ _ => u.size - (intOf iv).toNat)
    case atStart => exact ⟨0, 0, u.size + 1, [], rfl, rfl, Nat.zero_le _, Nat.zero_le _, by omega, Nat.zero_le _, hide (by simp), hT3, hfr, hB5, hz3⟩
    case round =>
      obtain ⟨i, k, f, out, rfl, rfl, hi, hk, hf, hlen, hE, hT, hbld, hBw, hsz⟩ := hrel
      clear hT3 hfr hB5 hz3
      obtain ⟨f, rfl⟩ : ∃ f', f = f' + 1 := ⟨f - 1, by omega⟩
      obtain ⟨L, hL⟩ : ∃ L, L = lcsAt u v i k := ⟨_, rfl⟩
      have HLl := hide (show L ≤ u.size by rw [hL]; have := lcs_le_left (u.data.toList.drop i) (v.data.toList.drop k); unfold lcsAt; simp at this; omega)
      have H00 := hide (fun W hW => tab_st u v hu hv B i k hi hk (i : Int) (k : Int) rfl rfl L hL W hW)
      by_cases h0 : L = 0
      · have HZ := hide (com_zero (u := u.data.toList.drop i) (v := v.data.toList.drop k) (f + 1) (hL.symm.trans h0))
        subst h0
        clear hL
        go_wp2_with fail
        refine (H00.out _ hT).mono ?_
        rintro e wa ⟨rfl, hTa, hOa⟩
        have hbld1 := isB_one hbld hOa (by omega)
        have hBw1 := hBw.trans (hOa.below (by omega))
        have hsz1 : b ≤ wa.heap.size := by have := hOa.size; omega
        go_wp2_with fail
        refine (bldString_any b b out wa hbld1 hsz1).mono ?_
        rintro e wb ⟨rfl, hBb⟩
        go_wp2
        go_ret2
        refine ⟨?_, hb0 ▸ hBw1.trans (hBb.mono (by omega))⟩
        rw [HD.out, hE.out, HZ.out, List.append_nil]; rfl
      · have hLp : 0 < L := by omega
        have HL := hide hL
        clear hL h0
        go_wp2_with fail
        refine (H00.out _ hT).mono ?_
        rintro e wa ⟨rfl, hTa, hOa⟩
        go_wp2_with fail
        refine (H00.out _ hTa).mono ?_
        rintro e wb ⟨rfl, hTb, hOb⟩
        have hOO := hOa.trans hOb
        have hbld1 := isB_one hbld hOO (by omega)
        have hBw1 := hBw.trans (hOO.below (by omega))
        have hsz1 : b ≤ wb.heap.size := by have := hOO.size; omega
        clear hT hTa hOa hOb hOO hbld hBw hsz
        obtain ⟨wo, rfl⟩ : ∃ wo : World, wo = wr := ⟨_, rfl⟩
        go_wp2_with fail
        go_loopw [9, 10, 34] (fun iv kv cv wr => ∃ c : Nat, c ≤ 16 ∧ iv = .int .i64 i ∧ kv = .int .i64 k ∧ cv = .int .i64 c ∧ Hid (∀ j (hj : j < lets.length), j < c → good (u.data.toList.drop i) (v.data.toList.drop k) lets[j] = false) ∧ Tab wr B u v ∧ Lib.IsBuilder 87 5 b b (Lib.byteCells out) wr ∧ Below b0 w wr ∧ b ≤ wr.heap.size)
          (fun _ _ cv _ => 16 - (intOf cv).toNat)
        case atStart => exact ⟨0, by omega, rfl, rfl, rfl, hide fun j _ h => absurd h (by omega), hTb, hbld1, hBw1, hsz1⟩
        case round =>
          obtain ⟨c, hc, rfl, rfl, rfl, hno, hT, hbld, hBw, hsz⟩ := hrel
          clear hTb hbld1 hBw1 hsz1
          by_cases hlt : c < 16
          · have hx0 : (0 : Int) ≤ (c : Int) := by omega
            have hx1 : (c : Int) < 16 := by omega
            have hi0 : (0 : Int) ≤ (i : Int) := by omega
            have hi1 : (i : Int) ≤ (u.size : Int) := by omega
            have hk0 : (0 : Int) ≤ (k : Int) := by omega
            have hk1 : (k : Int) ≤ (v.size : Int) := by omega
            have hcl : c < lets.length := by simpa [lets] using hlt
            obtain ⟨x, hx⟩ : ∃ x, x = lets[c] := ⟨_, rfl⟩
            have hxA : ∀ h : c < (⟨#[48, 49, 50, 51, 52, 53, 54, 55, 56, 57, 97, 98, 99, 100, 101, 102]⟩ : ByteArray).size, (⟨#[48, 49, 50, 51, 52, 53, 54, 55, 56, 57, 97, 98, 99, 100, 101, 102]⟩ : ByteArray)[c] = x := fun h => hx ▸ rfl
            obtain ⟨m, hm⟩ : ∃ m, m = Lib.indexByte (u.data.toList.drop i) x := ⟨_, rfl⟩
            obtain ⟨n, hn⟩ : ∃ n, n = Lib.indexByte (v.data.toList.drop k) x := ⟨_, rfl⟩
            have C1 := hide (fun W => idx_at (u.extract i u.size) x _ (extract_drop u i hi) m hm.symm W)
            have C2 := hide (fun W => idx_at (v.extract k v.size) x _ (extract_drop v k hk) n hn.symm W)
            have HX := hide hx
            have HM := hide hm
            have HN := hide hn
            clear hx hm hn
            go_wp2_with fail
            go_quiet ((go_at_call 64; exact quiet_left (C1.out _)))
            have hT := hT.drewN nq
            have hbld := isB_one hbld ((One.refl (B + 2) wr).drewN nq) (by omega)
            have hBw := belowN hBw nq
            have hsz : b ≤ (wr.drewN nq).heap.size := by simpa using hsz
            obtain ⟨Wq, hWq⟩ : ∃ Wq, Wq = wr.drewN nq := ⟨_, rfl⟩
            rw [← hWq] at hT hbld hBw hsz ⊢
            clear hWq
            go_wp2_with fail
            go_quiet ((go_at_call 64; exact quiet_left (C2.out _)))
            have hT := hT.drewN nq
            have hbld := isB_one hbld ((One.refl (B + 2) Wq).drewN nq) (by omega)
            have hBw := belowN hBw nq
            have hsz : b ≤ (Wq.drewN nq).heap.size := by simpa using hsz
            obtain ⟨W3, hW3⟩ : ∃ W3, W3 = Wq.drewN nq := ⟨_, rfl⟩
            rw [← hW3] at hT hbld hBw hsz ⊢
            clear hW3 C1 C2
            by_cases hm0 : 0 ≤ m
            · by_cases hn0 : 0 ≤ n
              · obtain ⟨m, rfl⟩ := Int.eq_ofNat_of_zero_le hm0
                obtain ⟨n, rfl⟩ := Int.eq_ofNat_of_zero_le hn0
                have hml : i + m + 1 ≤ u.size := by
                  obtain ⟨m', h4, h5, _⟩ := idx_sub (idx_back HM.out.symm [] (List.nil_sublist _))
                  have := HM.out
                  simp at h5
                  omega
                have hnl : k + n + 1 ≤ v.size := by
                  obtain ⟨m', h4, h5, _⟩ := idx_sub (idx_back HN.out.symm [] (List.nil_sublist _))
                  have := HN.out
                  simp at h5
                  omega
                obtain ⟨L2, hL2⟩ : ∃ L2, L2 = lcsAt u v (i + m + 1) (k + n + 1) := ⟨_, rfl⟩
                have H11 := hide (fun W hW => tab_st u v hu hv B (i + m + 1) (k + n + 1) hml hnl ((i : Int) + m + 1) ((k : Int) + n + 1) (by omega) (by omega) L2 hL2 W hW)
                have HGG := hide (show good (u.data.toList.drop i) (v.data.toList.drop k) x = decide (L2 + 1 = L) by
                  unfold good
                  rw [← HM.out, ← HN.out, HL.out, hL2]
                  simp [lcsAt, Nat.add_assoc])
                have hLs : L ≤ 256 := by have := HLl.out; omega
                clear hL2 hm0 hn0
                by_cases he : L2 + 1 = L
                · have hcmp : ((L2 : Int) == (L : Int) - 1) = true := by rw [beq_iff_eq]; omega
                  have HG := hide (HGG.out.trans (decide_eq_true he))
                  clear he
                  go_wp2_with fail
                  refine (H11.out _ hT).mono ?_
                  rintro e wd ⟨rfl, hTd, hOd⟩
                  have hbldd := isB_one hbld hOd (by omega)
                  have hBwd := hBw.trans (hOd.below (by omega))
                  have hszd : b ≤ wd.heap.size := by have := hOd.size; omega
                  clear hT hOd hbld hBw hsz
                  have hy0 : (0 : Int) ≤ (c : Int) := by omega
                  go_wp2_with fail
                  refine (bldWB_any b b (Lib.byteCells out) (x.toNat : Int) wd hbldd (by simp [Lib.byteCells]; omega) hszd).mono ?_
                  rintro e we ⟨rfl, hbe, hBe⟩
                  have hTe := hTd.below hBe (by omega)
                  have hBwe := hBwd.trans (hBe.mono (by omega))
                  have hsze : b ≤ we.heap.size := by have := hBe.size; omega
                  have hFI : lets.find? (good (u.data.toList.drop i) (v.data.toList.drop k)) = some x := by
                    rw [List.find?_eq_some_iff_getElem]
                    refine ⟨HG.out, c, hcl, HX.out.symm, fun j hj => ?_⟩
                    have := hno.out j (by omega) hj
                    simp [this]
                  have HST := hide (com_step f (show lcs (u.data.toList.drop i) (v.data.toList.drop k) ≠ 0 from fun h => by have := HL.out; unfold lcsAt at this; omega) hFI)
                  clear hbldd hBwd hszd hTd hBe hFI hno
                  go_wp2
                  go_roundw
                  case rel =>
                    refine ⟨i + m + 1, k + n + 1, f, out ++ [x], by go_num, by go_num, hml, hnl, by omega, by simp; omega, hide ?_, hTe, .inr ?_, hBwe, hsze⟩
                    · rw [hE.out, HST.out, ← HM.out, ← HN.out]
                      simp [Nat.add_assoc]
                    · simpa [Lib.byteCells] using hbe
                  case measure => simp [intOf]; omega
                · have hcmp : ((L2 : Int) == (L : Int) - 1) = false := by rw [beq_eq_false_iff_ne]; omega
                  have HG := hide (show good (u.data.toList.drop i) (v.data.toList.drop k) lets[c] = false by rw [← HX.out]; exact HGG.out.trans (decide_eq_false he))
                  clear he
                  go_wp2_with fail
                  refine (H11.out _ hT).mono ?_
                  rintro e wd ⟨rfl, hTd, hOd⟩
                  have hbldd := isB_one hbld hOd (by omega)
                  have hBwd := hBw.trans (hOd.below (by omega))
                  have hszd : b ≤ wd.heap.size := by have := hOd.size; omega
                  clear hT hOd hbld hBw hsz
                  go_wp2
                  go_roundw
                  case rel =>
                    refine ⟨c + 1, by omega, rfl, rfl, by go_num, hide fun j hj hjc => ?_, hTd, hbldd, hBwd, hszd⟩
                    by_cases e : j < c
                    · exact hno.out j hj e
                    · obtain rfl : j = c := by omega
                      exact HG.out
                  case measure => simp [intOf]; omega
              · have hm1 : decide (0 ≤ m) = true := decide_eq_true hm0
                have hn1 : decide (0 ≤ n) = false := decide_eq_false hn0
                have HG := hide (show good (u.data.toList.drop i) (v.data.toList.drop k) lets[c] = false by
                  unfold good
                  rw [← HX.out, ← HN.out, hn1]; simp)
                clear hn0
                go_wp2
                go_roundw
                case rel =>
                  refine ⟨c + 1, by omega, rfl, rfl, by go_num, hide fun j hj hjc => ?_, hT, hbld, hBw, hsz⟩
                  by_cases e : j < c
                  · exact hno.out j hj e
                  · obtain rfl : j = c := by omega
                    exact HG.out
                case measure => simp [intOf]; omega
            · have hm1 : decide (0 ≤ m) = false := decide_eq_false hm0
              have HG := hide (show good (u.data.toList.drop i) (v.data.toList.drop k) lets[c] = false by
                unfold good
                rw [← HX.out, ← HM.out, hm1]; simp)
              clear hm0
              go_wp2
              go_roundw
              case rel =>
                refine ⟨c + 1, by omega, rfl, rfl, by go_num, hide fun j hj hjc => ?_, hT, hbld, hBw, hsz⟩
                by_cases e : j < c
                · exact hno.out j hj e
                · obtain rfl : j = c := by omega
                  exact HG.out
              case measure => simp [intOf]; omega
          · exfalso
            obtain rfl : c = 16 := by omega
            obtain ⟨y, hy1, hy2⟩ := good_ex (u := u.data.toList.drop i) (v := v.data.toList.drop k) (fun d hd => HW.out d (List.mem_of_mem_drop hd)) (by have := HL.out; unfold lcsAt at this; omega)
            obtain ⟨j, hj, rfl⟩ := List.getElem_of_mem hy1
            have := hno.out j hj (by simpa [lets] using hj)
            rw [hy2] at this
            cases this
  · have h7 : (ckl [u, v] != 0) = true := by simpa using hc
    have HD := hide (show commonV u v = (⟨#[]⟩, ckl [u, v]) by unfold commonV; rw [if_neg hc])
    obtain ⟨z, hz⟩ : ∃ z, z = ckl [u, v] := ⟨_, rfl⟩
    rw [← hz] at h7 HD HI
    have HII := hide HI
    have HBB := hide HB0
    clear hc hz HI HB0
    go_enter Try.func26, Try.ntmps26
    go_wp2_with fail
    refine HII.out.mono ?_
    rintro e w1 ⟨rfl, q, rfl⟩
    go_wp2
    go_ret2
    exact ⟨by rw [HD.out]; rfl, belowN HBB.out q⟩
end Go.Proofs.Ytmajalpmbppkpaa
