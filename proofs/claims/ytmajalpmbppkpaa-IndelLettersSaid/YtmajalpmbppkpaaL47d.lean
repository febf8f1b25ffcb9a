/- The walk of the law IndelLetters. -/
import Derived.Test.YtmajalpmbppkpaaLetP
import Derived.Test.YtmajalpmbppkpaaLetW
import Derived.Test.YtmajalpmbppkpaaSub
set_option linter.unusedVariables false
namespace Go.Proofs.Ytmajalpmbppkpaa
open Go.RowKit Go.Maps
theorem strs_form {w : World} {B : Nat} {v : Value} {xs : List ByteArray} (h : Strs w B v xs) : ∃ A c, v = .slice A xs.length c ∧ (0 < xs.length → ∃ g, A = some ⟨g, 0, none⟩ ∧ g < w.heap.size ∧ ∀ k (hk : k < xs.length), w.cell? ⟨g, k, none⟩ = some (.string xs[k])) := by
  obtain ⟨A, c, rfl⟩ := h.shape
  refine ⟨A, c, rfl, fun hp => ?_⟩
  obtain ⟨g, cap, hv, hb, hg⟩ := h.form hp
  simp only [Value.slice.injEq] at hv
  obtain ⟨rfl, _, rfl⟩ := hv
  exact ⟨g, rfl, hg, fun k hk => h.cell hk⟩
def rowAt (w : World) (A : Option Addr) (xs : List ByteArray) : Prop := 0 < xs.length → ∃ g, A = some ⟨g, 0, none⟩ ∧ g < w.heap.size ∧ ∀ k (hk : k < xs.length), w.cell? ⟨g, k, none⟩ = some (.string xs[k])
theorem rowAt.below {w w' : World} {A : Option Addr} {xs : List ByteArray} {B : Nat} (h : rowAt w A xs) (hb : Below B w w') (hB : w.heap.size ≤ B) : rowAt w' A xs := fun hp => by
  obtain ⟨g, h1, h2, h3⟩ := h hp
  exact ⟨g, h1, Nat.lt_of_lt_of_le h2 hb.size, fun k hk => (hb.cell (p := ⟨g, k, none⟩) (Nat.lt_of_lt_of_le h2 hB)).trans (h3 k hk)⟩
theorem okc_more {q : Int} (hq : q ≤ 16) {c : UInt8} (h : okc q c = true) : okc 16 c = true := by
  unfold okc at h ⊢
  simp at h ⊢
  omega
theorem chk_okc {q : Int} {s : List UInt8} (hq : 1 ≤ q ∧ q ≤ 16) (h : chk q s = 0) : ∀ c ∈ s, okc q c = true := by
  unfold chk at h
  rw [if_neg (by omega)] at h
  split at h
  · omega
  · split at h
    · rename_i h2
      exact List.all_eq_true.1 h2
    · omega
theorem chk_of_okc {q : Int} {s : List UInt8} (hq : 1 ≤ q ∧ q ≤ 16) (hs : s.length ≤ 65536) (h : ∀ c ∈ s, okc q c = true) : chk q s = 0 := by
  unfold chk
  rw [if_neg (by omega), if_neg (by omega), if_pos (List.all_eq_true.2 h)]
theorem ckl_one {s : ByteArray} (hs : s.size ≤ 256) (h : ∀ c ∈ s.data.toList, okc 16 c = true) : ckl [s] = 0 :=
  ckl_of fun t ht => by
    simp only [List.mem_cons, List.not_mem_nil, or_false] at ht
    subst ht
    exact ⟨hs, chk_of (by simp; omega) h⟩
def rcN (s : ByteArray) (k : Nat) : Nat := ((List.range k).filter (runAt s)).length
theorem rcN_succ (s : ByteArray) (k : Nat) : rcN s (k + 1) = rcN s k + if runAt s k = true then 1 else 0 := by
  unfold rcN
  rw [List.range_succ, List.filter_append, List.length_append]
  cases h : runAt s k <;> simp [h]
theorem rcN_le (s : ByteArray) (k : Nat) : rcN s k ≤ k := by
  unfold rcN
  have := List.length_filter_le (runAt s) (List.range k)
  simpa using this
set_option maxRecDepth 100000 in
set_option maxHeartbeats 4000000 in
theorem lLetters_any (at_ : Int) (s : ByteArray) (wa : (Lit.int .u8 at_).wf = true) (ws : s.size ≤ maxLen) (w : World) :
    Calls Try.prog 8 #[.int .u8 at_, .string s] w fun e w' => e = .returned (.bool true) ∧ Below w.heap.size w w' := by
  have hat : 0 ≤ at_ ∧ at_ ≤ 255 := bounds_u8 wa
  obtain ⟨a1, rfl⟩ := Int.eq_ofNat_of_zero_le hat.1
  have ha1 : a1 ≤ 255 := by omega
  obtain ⟨r, hr, hr2⟩ : ∃ r : Nat, (a1 : Int) % 16 = (r : Int) ∧ r ≤ 15 := ⟨a1 % 16, by omega, by omega⟩
  clear wa hat
  by_cases h12 : (12 : Int) < (s.size : Int)
  · have hd : decide ((12 : Int) < (s.size : Int)) = true := decide_eq_true h12
    unfold maxLen at ws
    clear hr hr2
    go_enter Try.func8, Try.ntmps8
    go_wp2_with (go_at_call 24; refine (awake47_any _).mono ?_; rintro e w7 ⟨rfl, hB7⟩)
    go_ret
    exact ⟨rfl, hB7⟩
  · have hd : decide ((12 : Int) < (s.size : Int)) = false := decide_eq_false h12
    by_cases hck : chk ((r : Int) + 1) s.data.toList = 0
    · have hok := chk_okc (q := (r : Int) + 1) (by omega) hck
      have hok16 : ∀ c ∈ s.data.toList, okc 16 c = true := fun c hc => okc_more (by omega) (hok c hc)
      have hokK : ∀ c ∈ s.data.toList, okc ((r + 1 : Nat) : Int) c = true := fun c hc => by
        rw [show ((r + 1 : Nat) : Int) = (r : Int) + 1 by omega]; exact hok c hc
      have C0 := fun W => rcheck_any ((r : Int) + 1) s W
      rw [hck] at C0
      have C1 := fun W => del_any s W
      simp only [ckl_one (s := s) (by omega) hok16] at C1
      have C2 := fun W => ins_ok (r + 1) s (by omega) (by omega) (by rw [show ((r + 1 : Nat) : Int) = (r : Int) + 1 by omega]; exact hck) W
      rw [show ((r + 1 : Nat) : Int) = (r : Int) + 1 by omega] at C2
      have HD1 := fun (rs : List ByteArray) (h : DelRes s rs) => hide (del_count h)
      have HD2 := fun (rs : List ByteArray) (h : InsRes (r + 1) s rs) => hide (ins_count (by omega) hokK h)
      have HB1 := hide (fun (x : ByteArray) (hx : x.data.toList ∈ dels s s.size) => back_ins (q := r + 1) (by omega) hokK hx)
      have HB2 := hide (fun (x : ByteArray) (hx : x.data.toList ∈ inss s (r + 1) (s.size + 1)) => back_del (q := r + 1) (by omega) hokK hx)
      have H0 := hide C0
      have H1 := hide C1
      have H2 := hide C2
      clear C0 C1 C2 hck hok hok16 hokK
      go_enter Try.func8, Try.ntmps8
      go_wp2_with fail
      refine (H0.out _).mono ?_
      rintro e w1 ⟨rfl, rfl⟩
      go_wp2_with fail
      refine (H1.out _).mono ?_
      rintro e w1 ⟨v1, rfl, ⟨rs1, hrow1, hd1, _⟩, hB1⟩
      have hd1 := hd1 trivial
      obtain ⟨A1, c1, rfl, hat1⟩ := strs_form hrow1
      go_wp2_with fail
      refine (H2.out _).mono ?_
      rintro e w2 ⟨v2, rfl, ⟨rs2, hrow2, hi2⟩, hB2⟩
      obtain ⟨A2, c2, rfl, hat2⟩ := strs_form hrow2
      have hat1 : rowAt w2 A1 rs1 := rowAt.below hat1 hB2 (Nat.le_refl _)
      have hat2 : rowAt w2 A2 rs2 := hat2
      have hBa := below2 hB1 hB2
      have hl1 := (HD1 rs1 hd1).out
      have hl2 := (HD2 rs2 hi2).out
      rw [Nat.add_sub_cancel] at hl2
      have hrc : rs1.length = rcN s s.size := hl1
      have HRC := hide hrc
      have HL2 := hide hl2
      have HI1 := hide hd1
      have HI2 := hide hi2
      clear hrow1 hrow2 hB1 hB2 H0 H1 H2 HD1 HD2 hl1 hd1 hi2 hrc hl2
      go_wp2_with fail
      go_loopw [10, 47] (fun cv iv wr => ∃ k q : Nat, k ≤ s.size ∧ iv = .int .i64 k ∧ cv = .int .i64 (rcN s k : Nat) ∧ wr = w2.drewN q) (fun _ iv _ => s.size - (intOf iv).toNat)
      case atStart => exact ⟨0, 0, Nat.zero_le _, rfl, rfl, rfl⟩
      case round =>
        obtain ⟨k, q, hk, rfl, rfl, rfl⟩ := hrel
        by_cases hlt : k < s.size
        · have hk0 : (0 : Int) ≤ (k : Int) := by omega
          have hk1 : (k : Int) < (s.size : Int) := by omega
          have hrl := rcN_le s k
          have HS := hide (rcN_succ s k)
          obtain ⟨R, hR⟩ : ∃ R, R = rcN s k := ⟨_, rfl⟩
          rw [← hR] at hrl HS ⊢
          clear hR
          cases hrun : runAt s k with
          | true =>
            rw [hrun, if_pos rfl] at HS
            by_cases h0 : k = 0
            · have hkt : ((k : Int) == 0) = true := by rw [beq_iff_eq]; omega
              clear h0 hrun
              go_wp2_with fail
              go_quiet (fail)
              go_wp2
              go_roundw
              case rel => exact ⟨k + 1, q + nq, by omega, by go_num, by rw [HS.out]; go_num, by simp⟩
              case measure => simp [intOf]; omega
            · have hkn : ((k : Int) == 0) = false := by rw [beq_eq_false_iff_ne]; omega
              obtain ⟨j, hj⟩ : ∃ j, j = k - 1 := ⟨_, rfl⟩
              have hkw : IntKind.i64.wrap ((k : Int) - 1) = (j : Int) := by rw [IntWalk.i64_in _ (by omega)]; omega
              have hk2 : (0 : Int) ≤ (j : Int) := by omega
              have hk3 : (j : Int) < (s.size : Int) := by omega
              have hjs : j < s.size := by omega
              have hne := run_ne hlt hjs h0 hj hrun
              clear h0 hj hrun
              go_wp2_with fail
              go_quiet (fail)
              go_wp2
              go_roundw
              case rel => exact ⟨k + 1, q + nq, by omega, by go_num, by rw [HS.out]; go_num, by simp⟩
              case measure => simp [intOf]; omega
          | false =>
            rw [hrun, if_neg (by decide), Nat.add_zero] at HS
            have h0 : k ≠ 0 := by rintro rfl; simp [runAt] at hrun
            have hkn : ((k : Int) == 0) = false := by rw [beq_eq_false_iff_ne]; omega
            obtain ⟨j, hj⟩ : ∃ j, j = k - 1 := ⟨_, rfl⟩
            have hkw : IntKind.i64.wrap ((k : Int) - 1) = (j : Int) := by rw [IntWalk.i64_in _ (by omega)]; omega
            have hk2 : (0 : Int) ≤ (j : Int) := by omega
            have hk3 : (j : Int) < (s.size : Int) := by omega
            have hjs : j < s.size := by omega
            have hne := run_eq hlt hjs h0 hj hrun
            clear h0 hj hrun
            go_wp2_with fail
            go_quiet (fail)
            go_wp2
            go_roundw
            case rel => exact ⟨k + 1, q + nq, by omega, by go_num, by rw [HS.out, Nat.add_zero], by simp⟩
            case measure => simp [intOf]; omega
        · obtain rfl : k = s.size := by omega
          have hrc := HRC.out
          have hl2 := HL2.out
          have hx1 : rs1.length ≤ 12 := by rw [hrc]; have := rcN_le s s.size; omega
          obtain ⟨M, hM⟩ : ∃ M, M = s.size * r := ⟨_, rfl⟩
          have hMI : (s.size : Int) * (r : Int) = (M : Int) := by rw [hM]; simp
          have hM2 : M ≤ 12 * 15 := by rw [hM]; exact Nat.mul_le_mul (by omega) hr2
          rw [← hM] at hl2
          have hlen2 : ((rs2.length : Int) != (M : Int) + ((r : Int) + 1)) = false := by rw [bne_eq_false_iff_eq]; omega
          rw [← hrc]
          have hlen1 : ((rs1.length : Int) != (rs1.length : Int)) = false := by simp
          have hx2 : rs2.length ≤ 200 := by omega
          clear hM hrc hl2
          go_wp2_with fail
          refine (asc_t rs1 A1 c1 _ (fun hp => by obtain ⟨g, h1, _, h3⟩ := hat1 hp; exact ⟨g, h1, h3⟩) (by omega) HI1.out.1).mono ?_
          rintro e w3 ⟨rfl, q1, rfl⟩
          go_wp2_with fail
          refine (asc_t rs2 A2 c2 _ (fun hp => by obtain ⟨g, h1, _, h3⟩ := hat2 hp; exact ⟨g, h1, h3⟩) (by omega) HI2.out.1).mono ?_
          rintro e w4 ⟨rfl, q2, rfl⟩
          have hBb : Below w.heap.size w (w2.drewN (q + q1 + q2)) := belowN hBa (q + q1 + q2)
          have hr1 : rowAt (w2.drewN (q + q1 + q2)) A1 rs1 := rowAt.below hat1 (belowN (Below.refl w2.heap.size w2) (q + q1 + q2)) (Nat.le_refl _)
          have hr2' : rowAt (w2.drewN (q + q1 + q2)) A2 rs2 := rowAt.below hat2 (belowN (Below.refl w2.heap.size w2) (q + q1 + q2)) (Nat.le_refl _)
          clear hat1 hat2 hBa
          have hlenr : r + 1 ≤ 16 := by omega
          clear hMI hM2 hlen1 hlen2 HRC HL2
          go_wp2_with fail
          generalize w2.drewN (q + q1 + q2) = W0 at hBb hr1 hr2' ⊢
          have HR1 := hide hr1
          have HR2 := hide hr2'
          clear hr1 hr2'
          go_loopw [101] (fun iv wr => ∃ j : Nat, j ≤ rs1.length ∧ iv = .int .i64 j ∧ Below W0.heap.size W0 wr) (fun iv _ => rs1.length - (intOf iv).toNat)
          case atStart => exact ⟨0, Nat.zero_le _, rfl, Below.refl _ _⟩
          case round =>
            obtain ⟨j, hj, rfl, hBw⟩ := hrel
            by_cases hlt2 : j < rs1.length
            · obtain ⟨g, rfl, hg, hc⟩ := HR1.out (by omega)
              have hcx := (hBw.cell (p := ⟨g, j, none⟩) hg).trans (hc j hlt2)
              have hxm := (HI1.out.2 rs1[j]).1 (List.getElem_mem hlt2)
              obtain ⟨x, hx⟩ : ∃ x, x = rs1[j] := ⟨_, rfl⟩
              rw [← hx] at hcx hxm
              obtain ⟨hxs, hxsub, hxok, hxin⟩ := HB1.out x hxm
              have hxck : chk ((r + 1 : Nat) : Int) x.data.toList = 0 := chk_of_okc (by omega) (by simp; omega) hxok
              have CI := fun W => ins_ok (r + 1) x (by omega) (by omega) hxck W
              rw [show ((r + 1 : Nat) : Int) = (r : Int) + 1 by omega] at CI
              have HCI := hide CI
              have HS := hide (fun W => sub_any x s (by unfold maxLen; omega) ws W)
              have hxl : ((x.size : Int) != (s.size : Int) - 1) = false := by rw [bne_eq_false_iff_eq]; omega
              have HIN := hide hxin
              have HOK := hide hxok
              have HSUB := hide hxsub
              have hx12 : x.size ≤ 12 := by omega
              have hj0 : (0 : Int) ≤ (j : Int) := by omega
              have hj1 : (j : Int) < (rs1.length : Int) := by omega
              clear hx hxm hxs hxsub hxok hxin hxck CI hc
              go_wp2_with fail
              refine (HCI.out _).mono ?_
              rintro e w5 ⟨v5, rfl, ⟨rs, hrow, hi⟩, hB5⟩
              obtain ⟨A5, c5, rfl, hat5⟩ := strs_form hrow
              have hsm : s ∈ rs := (hi.2 s).2 HIN.out
              have hp5 : 0 < rs.length := List.length_pos_of_mem hsm
              obtain ⟨g5, rfl, hg5, hc5⟩ := hat5 hp5
              have hln5 : rs.length ≤ 4294967296 := by
                have h1 := ins_count (q := r + 1) (by omega) HOK.out hi
                have : x.size * (r + 1 - 1) ≤ 12 * 16 := Nat.mul_le_mul hx12 (by omega)
                omega
              have HCON := hide (fun q' => con_t rs s g5 c5 (w5.drewN q') hc5 hln5 hsm)
              have hB6 := hBw.trans (hB5.mono hBw.size)
              clear hrow hi hat5 hsm hp5 hg5 hc5 hln5 HOK HIN hB5 hBw hcx HCI
              go_wp2_with fail
              refine (HS.out _).mono ?_
              rintro e w6 ⟨⟨b1, rfl, hb1⟩, q1, rfl⟩
              obtain rfl : b1 = true := hb1.2 HSUB.out
              clear hb1
              go_wp2_with fail
              refine (HCON.out q1).mono ?_
              rintro e w7 ⟨rfl, q2, rfl⟩
              have hB7 := belowN (belowN hB6 q1) q2
              go_wp2
              go_roundw
              case rel => exact ⟨j + 1, by omega, by go_num, by simpa using hB7⟩
              case measure => simp [intOf]; omega
            · obtain rfl : j = rs1.length := by omega
              clear HB1 HI1 HR1
              have hBc := hBb.trans (hBw.mono hBb.size)
              have HR3 := hide (rowAt.below HR2.out hBw (Nat.le_refl _))
              clear HR2 hBw hBb
              generalize hW1 : wr = W1 at hBc HR3 ⊢
              clear hW1
              go_wp2_with fail
              go_loopw [136] (fun iv wr => ∃ j : Nat, j ≤ rs2.length ∧ iv = .int .i64 j ∧ Below W1.heap.size W1 wr) (fun iv _ => rs2.length - (intOf iv).toNat)
              case atStart => exact ⟨0, Nat.zero_le _, rfl, Below.refl _ _⟩
              case round =>
                obtain ⟨j, hj, rfl, hBw⟩ := hrel
                by_cases hlt2 : j < rs2.length
                · obtain ⟨g, rfl, hg, hc⟩ := HR3.out (by omega)
                  have hcx := (hBw.cell (p := ⟨g, j, none⟩) hg).trans (hc j hlt2)
                  have hxm := (HI2.out.2 rs2[j]).1 (List.getElem_mem hlt2)
                  obtain ⟨x, hx⟩ : ∃ x, x = rs2[j] := ⟨_, rfl⟩
                  rw [← hx] at hcx hxm
                  obtain ⟨hxs, hxsub, hxok, hxin⟩ := HB2.out x hxm
                  have hx16 : ∀ c ∈ x.data.toList, okc 16 c = true := fun c hc => okc_more (by omega) (hxok c hc)
                  have CI := fun W => del_any x W
                  simp only [ckl_one (s := x) (by omega) hx16] at CI
                  have HCI := hide CI
                  have HS := hide (fun W => sub_any s x ws (by unfold maxLen; omega) W)
                  have hxl : ((x.size : Int) != (s.size : Int) + 1) = false := by rw [bne_eq_false_iff_eq]; omega
                  have HIN := hide hxin
                  have HSUB := hide hxsub
                  have hx12 : x.size ≤ 13 := by omega
                  have hj0 : (0 : Int) ≤ (j : Int) := by omega
                  have hj1 : (j : Int) < (rs2.length : Int) := by omega
                  clear hx hxm hxs hxsub hxok hxin CI hc hx16
                  go_wp2_with fail
                  refine (HCI.out _).mono ?_
                  rintro e w5 ⟨v5, rfl, ⟨rs, hrow, hi, _⟩, hB5⟩
                  have hi := hi trivial
                  obtain ⟨A5, c5, rfl, hat5⟩ := strs_form hrow
                  have hsm : s ∈ rs := (hi.2 s).2 HIN.out
                  have hp5 : 0 < rs.length := List.length_pos_of_mem hsm
                  obtain ⟨g5, rfl, hg5, hc5⟩ := hat5 hp5
                  have hln5 : rs.length ≤ 4294967296 := by
                    have h1 := del_count hi
                    have h2 := rcN_le x x.size
                    unfold rcN at h2
                    omega
                  have HCON := hide (fun q' => con_t rs s g5 c5 (w5.drewN q') hc5 hln5 hsm)
                  have hB6 := hBw.trans (hB5.mono hBw.size)
                  clear hrow hi hat5 hsm hp5 hg5 hc5 hln5 HIN hB5 hBw hcx HCI
                  go_wp2_with fail
                  refine (HS.out _).mono ?_
                  rintro e w6 ⟨⟨b1, rfl, hb1⟩, q1, rfl⟩
                  obtain rfl : b1 = true := hb1.2 HSUB.out
                  clear hb1
                  go_wp2_with fail
                  refine (HCON.out q1).mono ?_
                  rintro e w7 ⟨rfl, q2, rfl⟩
                  have hB7 := belowN (belowN hB6 q1) q2
                  go_wp2
                  go_roundw
                  case rel => exact ⟨j + 1, by omega, by go_num, by simpa using hB7⟩
                  case measure => simp [intOf]; omega
                · obtain rfl : j = rs2.length := by omega
                  have hBd := hBc.trans (hBw.mono hBc.size)
                  clear hBc hBw HR3 HI2 HB2
                  go_wp2_with fail
                  refine (awake47_any _).mono ?_
                  rintro e w8 ⟨rfl, hB8⟩
                  go_wp2
                  go_ret
                  exact ⟨rfl, below2 hBd hB8⟩
    · have hne : (chk ((r : Int) + 1) s.data.toList != 0) = true := by simpa using hck
      clear hck
      go_enter Try.func8, Try.ntmps8
      go_wp2_with fail
      refine (rcheck_any _ _ _).mono ?_
      rintro e w1 ⟨rfl, rfl⟩
      go_wp2_with (go_at_call 24; refine (awake47_any _).mono ?_; rintro e w7 ⟨rfl, hB7⟩)
      go_ret
      exact ⟨rfl, hB7⟩
end Go.Proofs.Ytmajalpmbppkpaa
