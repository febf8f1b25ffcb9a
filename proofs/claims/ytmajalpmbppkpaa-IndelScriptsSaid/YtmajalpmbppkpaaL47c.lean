/- The walk of the law IndelScripts. -/
import Derived.Test.YtmajalpmbppkpaaL47a
import Derived.Test.YtmajalpmbppkpaaScP
set_option linter.unusedVariables false
namespace Go.Proofs.Ytmajalpmbppkpaa
open Go.RowKit
theorem scriptV_of {u v : ByteArray} (hu : u.size ≤ 256 ∧ chk 16 u.data.toList = 0) (hv : v.size ≤ 256 ∧ chk 16 v.data.toList = 0) : scriptV u v = (evs (u.size + v.size + 1) u.data.toList v.data.toList 0, 0) := by
  unfold scriptV
  rw [if_pos (ckl_of fun s hs => by
    simp only [List.mem_cons, List.not_mem_nil, or_false] at hs
    rcases hs with rfl | rfl
    · exact hu
    · exact hv)]
theorem rd_form {w : World} {v : Value} {xs : List Ev} (h : RdE w v xs) : ∃ A c, v = .slice A xs.length c ∧ (0 < xs.length → ∃ g, A = some ⟨g, 0, none⟩ ∧ EvAt w g xs) := by
  rcases h with ⟨rfl, A, c, rfl⟩ | ⟨g, c, rfl, hc⟩
  · exact ⟨A, c, rfl, fun h => by simp at h⟩
  · exact ⟨_, c, rfl, fun _ => ⟨g, rfl, hc⟩⟩
theorem ev_lt {w : World} {g : Nat} {xs : List Ev} (h : EvAt w g xs) (hp : 0 < xs.length) : g < w.heap.size := World.block_lt_of_cell? w ⟨g, 0 * 4, none⟩ (h 0 hp).1
theorem EvAt.below {w w' : World} {B g : Nat} {xs : List Ev} (h : EvAt w g xs) (hb : Below B w w') (hg : g < B) : EvAt w' g xs := fun k hk => by
  obtain ⟨h0, h1, h2, h3⟩ := h k hk
  exact ⟨(hb.cell (p := ⟨g, k * 4, none⟩) hg).trans h0, (hb.cell (p := ⟨g, k * 4 + 1, none⟩) hg).trans h1, (hb.cell (p := ⟨g, k * 4 + 2, none⟩) hg).trans h2, (hb.cell (p := ⟨g, k * 4 + 3, none⟩) hg).trans h3⟩
theorem dig_lets : ∀ c ∈ lets, ∃ d : Nat, dig c = (d : Int) ∧ d < 16 ∧ ((⟨#[48, 49, 50, 51, 52, 53, 54, 55, 56, 57, 97, 98, 99, 100, 101, 102]⟩ : ByteArray).extract d (d + 1)).data.toList = [c] := by
  have h : ∀ d : Fin 16, dig (lets[d.1]'(by have := d.2; simp [lets])) = (d.1 : Int) ∧ ((⟨#[48, 49, 50, 51, 52, 53, 54, 55, 56, 57, 97, 98, 99, 100, 101, 102]⟩ : ByteArray).extract d.1 (d.1 + 1)).data.toList = [lets[d.1]'(by have := d.2; simp [lets])] := by decide +kernel
  intro c hc
  obtain ⟨d, hd, rfl⟩ := List.getElem_of_mem hc
  have hd' : d < 16 := by simpa [lets] using hd
  obtain ⟨h1, h2⟩ := h ⟨d, hd'⟩
  exact ⟨d, h1, hd', h2⟩
theorem let_slice (d : Nat) (hd : d < 16) (W : World) : (Instr.slice 9 (.string ⟨#[48, 49, 50, 51, 52, 53, 54, 55, 56, 57, 97, 98, 99, 100, 101, 102]⟩) (some (.int .i64 (d : Int))) (some (.int .i64 ((d : Int) + 1))) none).run Try.prog W = .ok (.string ((⟨#[48, 49, 50, 51, 52, 53, 54, 55, 56, 57, 97, 98, 99, 100, 101, 102]⟩ : ByteArray).extract d (d + 1))) W := by
  have : d = 0 ∨ d = 1 ∨ d = 2 ∨ d = 3 ∨ d = 4 ∨ d = 5 ∨ d = 6 ∨ d = 7 ∨ d = 8 ∨ d = 9 ∨ d = 10 ∨ d = 11 ∨ d = 12 ∨ d = 13 ∨ d = 14 ∨ d = 15 := by omega
  rcases this with rfl | rfl | rfl | rfl | rfl | rfl | rfl | rfl | rfl | rfl | rfl | rfl | rfl | rfl | rfl | rfl <;> (show _ = _; kernel_rfl)
theorem prev_at {l : List Ev} {p j : Nat} {hp : p < l.length} {hj : j < l.length} {J : Nat} {c : Int} (e : p = j) (h : l[j].at_ = (J : Int)) (hc : (J : Int) < c) : l[p].at_ < c := by
  subst e; rw [h]; exact hc
theorem prev_kind {l : List Ev} {p j : Nat} {hp : p < l.length} {hj : j < l.length} (e : p = j) (h : l[j].kind = 5) : ¬ l[p].kind = 4 := by
  subst e; rw [h]; decide
theorem box4 (w : World) (a b c d : Value) :
    (w.alloc (Obj.cells #[a, b, c, d] 47)).cell? ⟨w.heap.size, 0, none⟩ = some a ∧ (w.alloc (Obj.cells #[a, b, c, d] 47)).cell? ⟨w.heap.size, 1, none⟩ = some b ∧
    (w.alloc (Obj.cells #[a, b, c, d] 47)).cell? ⟨w.heap.size, 2, none⟩ = some c ∧ (w.alloc (Obj.cells #[a, b, c, d] 47)).cell? ⟨w.heap.size, 3, none⟩ = some d := by
  refine ⟨?_, ?_, ?_, ?_⟩ <;> (rw [Lib.cell_of_heap (heap_alloc_new w _)]; rfl)
theorem seg_list (u : ByteArray) (a J : Nat) (hJ : J ≤ u.size) : (u.extract a J).data.toList = (u.data.toList.drop a).take (J - a) := by
  rw [ByteArray.data_extract, Array.toList_extract, List.extract_eq_drop_take']
  rw [List.drop_take]
theorem made_le {u v m : ByteArray} {a : Nat} {r : List Ev} (hv : v.size ≤ 12) (h : Inv u.data.toList v.data.toList a m.data.toList r) : m.size ≤ 12 := by
  obtain ⟨f, i, k, _, _, _, _, hk, hm⟩ := h
  have := congrArg List.length hm
  simp at this
  omega
set_option maxRecDepth 100000 in
set_option maxHeartbeats 4000000 in
theorem lScripts_any (u v : ByteArray) (wu : u.size ≤ maxLen) (wv : v.size ≤ maxLen) (w : World) :
    Calls Try.prog 6 #[.string u, .string v] w fun e w' => e = .returned (.bool true) ∧ Below w.heap.size w w' := by
  have hrow : ∀ k (hk : k < [u, v].length), (w.alloc (Obj.cells #[Value.string u, Value.string v] 9)).cell? ⟨w.heap.size, k, none⟩ = some (.string [u, v][k]) := fun k hk => Strs.cell (Strs.lit w [u, v] (Nat.le_refl _) (by simp) _ rfl) hk
  have HF := fine_any [u, v] 12 w.heap.size 2 _ hrow (by simp)
  rw [show ((12 : Nat) : Int) = 12 from rfl] at HF
  have HB0 := (Below.refl w.heap.size w).alloc (Nat.le_refl _) (Obj.cells #[Value.string u, Value.string v] 9)
  have hz0 : (w.alloc (Obj.cells #[Value.string u, Value.string v] 9)).heap.size = w.heap.size + 1 := by simp
  rw [hz0] at HF
  clear hrow hz0
  cases hfine : [u, v].all (fin 12) with
  | false =>
    rw [hfine] at HF
    have HFF := hide HF
    have HBB := hide HB0
    clear HF HB0 hfine
    go_enter Try.func6, Try.ntmps6
    go_wp2_with fail
    refine HFF.out.mono ?_
    rintro e w1 ⟨rfl, hB1⟩
    go_wp2_with fail
    refine (awake47_any _).mono ?_
    rintro e w2 ⟨rfl, hB2⟩
    go_wp2
    go_ret
    exact ⟨rfl, (HBB.out.trans (hB1.mono (by omega))).trans (hB2.mono (by have := HBB.out.size; have := hB1.size; omega))⟩
  | true =>
    rw [hfine] at HF
    have hall := fin_all hfine
    obtain ⟨hu12, hu0⟩ := hall u (by simp)
    obtain ⟨hv12, hv0⟩ := hall v (by simp)
    have HFF := hide HF
    have HBB := hide HB0
    clear HF HB0 hfine hall
    have C1 := fun W => script_any u v W
    have C2 := fun W => dist_any u v W
    rw [scriptV_of ⟨by omega, hu0⟩ ⟨by omega, hv0⟩] at C1
    rw [distV_of ⟨by omega, hu0⟩ ⟨by omega, hv0⟩] at C2
    obtain ⟨l, hl⟩ : ∃ l, l = evs (u.size + v.size + 1) u.data.toList v.data.toList 0 := ⟨_, rfl⟩
    have hll : l.length = dst u v := by rw [hl]; exact evs_len _ _ _ _ (by simp)
    have hst : Inv u.data.toList v.data.toList 0 [] l := by
      rw [hl]
      have := inv_start u.data.toList v.data.toList
      simpa using this
    have hev : dst u v + 2 * lcs u.data.toList v.data.toList = u.size + v.size := by
      have := dist_lcs u.data.toList v.data.toList
      simpa [dst] using this
    rw [← hl] at C1
    rw [← hll] at C2 hev
    have HVL := hide (fun c (hc : c ∈ v.data.toList) => okc_mem (chk_all hv0 c hc))
    have H1 := hide C1
    have H2 := hide C2
    have HST := hide hst
    have hl24 : l.length ≤ 24 := by omega
    clear C1 C2 hl hll hst hev hu0 hv0 wu wv
    go_enter Try.func6, Try.ntmps6
    go_wp2_with fail
    refine HFF.out.mono ?_
    rintro e w1 ⟨rfl, hB1⟩
    have hBa := HBB.out.trans (hB1.mono (by omega))
    clear HFF HBB hB1
    go_wp2_with fail
    refine (H1.out _).mono ?_
    rintro e w2 ⟨vl, rfl, hrow, hB2⟩
    obtain ⟨A, c, rfl, hat⟩ := rd_form hrow.rd
    go_wp2_with fail
    refine (H2.out _).mono ?_
    rintro e w3 ⟨rfl, hB3⟩
    have hBb := below2 (below2 hBa hB2) hB3
    have hat3 : 0 < l.length → ∃ g, A = some ⟨g, 0, none⟩ ∧ EvAt w3 g l ∧ g < w3.heap.size := fun hp => by
      obtain ⟨g, h1, h2⟩ := hat hp
      exact ⟨g, h1, h2.below hB3 (ev_lt h2 hp), Nat.lt_of_lt_of_le (ev_lt h2 hp) hB3.size⟩
    have HAT := hide hat3
    clear hBa hB2 hB3 H1 H2 hrow hat hat3
    go_wp2_with fail
    go_loopw [9, 10, 45] (fun mv av jv wr => ∃ (j a : Nat) (made : ByteArray), mv = .string made ∧ av = .int .i64 a ∧ jv = .int .i64 j ∧ j ≤ l.length ∧ a ≤ u.size ∧ made.size ≤ 12 ∧ Hid (Inv u.data.toList v.data.toList a made.data.toList (l.drop j)) ∧
      Hid (∀ p (hp : p < l.length), p + 1 = j → l[p].kind = 4 → l[p].at_ < a) ∧ Below w3.heap.size w3 wr) (fun _ _ jv _ => l.length - (intOf jv).toNat)
    case atStart => exact ⟨0, 0, ⟨#[]⟩, rfl, rfl, rfl, Nat.zero_le _, Nat.zero_le _, Nat.zero_le _, hide HST.out, hide (fun p hp h => by omega), Below.refl _ _⟩
    case round =>
      obtain ⟨j, a, made, rfl, rfl, rfl, hj, ha, hmd, hinv, hprev, hBw⟩ := hrel
      by_cases hlt : j < l.length
      · obtain ⟨g, rfl, hat3, hg3⟩ := HAT.out (by omega)
        have hatw := hat3.below hBw hg3
        obtain ⟨c0, c1, c2, c3⟩ := hatw j hlt
        have hinv2 := hinv.out
        rw [List.drop_eq_getElem_cons hlt] at hinv2
        obtain ⟨J, hJ, haJ, hJu, hlen, hkind⟩ := inv_cons hinv2
        clear hinv2
        rw [hJ] at c1
        rw [hlen] at c2
        have hJu2 : J ≤ u.size := hJu
        have hn1 : decide (J < a) = false := decide_eq_false (by omega)
        have hn2 : decide (u.size < J) = false := decide_eq_false (by omega)
        have hj0 : (0 : Int) ≤ (j : Int) := by omega
        have hj1 : (j : Int) < (l.length : Int) := by omega
        have hgw : g < wr.heap.size := Nat.lt_of_lt_of_le hg3 hBw.size
        have ha0 : (0 : Int) ≤ (a : Int) := by omega
        have haJ1 : (a : Int) ≤ (J : Int) := by omega
        have haJ2 : (J : Int) ≤ (u.size : Int) := by omega
        have hJe := hide hJ
        clear hJ HAT hat3 hlen
        rcases hkind with ⟨hk, hJlt, hlet, hinv3⟩ | ⟨hk, ch, hcv, hlet, hinv3⟩
        · rw [hk] at c0
          rw [hlet] at c3
          have hJlt2 : decide (J < u.size) = true := decide_eq_true hJlt
          have hmd2 : (made ++ u.extract a J).size ≤ 12 := made_le (u := u) (a := J + 1) (r := l.drop (j + 1)) hv12 (by
            rw [ByteArray.data_append, Array.toList_append, seg_list u a J hJu2]; exact hinv3)
          have hinv3 := hide hinv3
          have hmm : made.size + (J - a) ≤ 12 := by simp at hmd2; omega
          clear hk hlet
          by_cases hj2 : j = 0
          · have hn3 : decide (0 < j) = false := decide_eq_false (by omega)
            clear hj2 hprev
            go_wp2_with fail
            have hBx := hBw.alloc hBw.size (Obj.cells #[Value.int .i64 4, Value.int .i64 (J : Int), Value.int .i64 1, Value.int .i64 0] 47)
            obtain ⟨f0, f1, f2, f3⟩ := box4 wr (Value.int .i64 4) (Value.int .i64 (J : Int)) (Value.int .i64 1) (Value.int .i64 0)
            have hx := hatw.below ((Below.refl wr.heap.size wr).alloc (Nat.le_refl _) (Obj.cells #[Value.int .i64 4, Value.int .i64 (J : Int), Value.int .i64 1, Value.int .i64 0] 47)) hgw
            generalize wr.alloc (Obj.cells #[Value.int .i64 4, Value.int .i64 (J : Int), Value.int .i64 1, Value.int .i64 0] 47) = Wx at hBx f0 f1 f2 f3 hx ⊢
            generalize wr.heap.size = X at f0 f1 f2 f3 ⊢
            clear c0 c1 c2 c3 hatw hgw
            clear hx
            go_quiet (fail)
            go_wp2
            go_roundw
            case rel =>
              refine ⟨j + 1, J + 1, _, rfl, by go_num, by go_num, hlt, hJlt, hmd2, hide ?_, hide (fun p hp hpj _ => prev_at (by omega) hJe.out (by omega)), belowN hBx nq⟩
              rw [ByteArray.data_append, Array.toList_append, seg_list u a J hJu2]
              exact hinv3.out
            case measure => simp [intOf]; omega
          · have hn3 : decide (0 < j) = true := decide_eq_true (by omega)
            obtain ⟨p, hp⟩ : ∃ p, p = j - 1 := ⟨_, rfl⟩
            have hpl : p < l.length := by omega
            have hpw : IntKind.i64.wrap ((j : Int) - 1) = (p : Int) := by rw [IntWalk.i64_in _ (by omega)]; omega
            have hp0 : (0 : Int) ≤ (p : Int) := by omega
            have hp1 : (p : Int) < (l.length : Int) := by omega
            have hpv := hprev.out p hpl (by omega)
            clear hp hj2 hprev
            go_wp2_with fail
            have hBx := hBw.alloc hBw.size (Obj.cells #[Value.int .i64 4, Value.int .i64 (J : Int), Value.int .i64 1, Value.int .i64 0] 47)
            obtain ⟨f0, f1, f2, f3⟩ := box4 wr (Value.int .i64 4) (Value.int .i64 (J : Int)) (Value.int .i64 1) (Value.int .i64 0)
            have hx := hatw.below ((Below.refl wr.heap.size wr).alloc (Nat.le_refl _) (Obj.cells #[Value.int .i64 4, Value.int .i64 (J : Int), Value.int .i64 1, Value.int .i64 0] 47)) hgw
            generalize wr.alloc (Obj.cells #[Value.int .i64 4, Value.int .i64 (J : Int), Value.int .i64 1, Value.int .i64 0] 47) = Wx at hBx f0 f1 f2 f3 hx ⊢
            generalize wr.heap.size = X at f0 f1 f2 f3 ⊢
            clear c0 c1 c2 c3 hatw hgw
            obtain ⟨d0, d1, _, _⟩ := hx p hpl
            by_cases hpe : l[p].at_ = (J : Int)
            · have hk4 : ¬ l[p].kind = 4 := fun h => by have := hpv h; omega
              have hk5 : (l[p].kind == 4) = false := by rw [beq_eq_false_iff_ne]; exact hk4
              have hpe2 : ((J : Int) == (J : Int)) = true := by simp
              rw [hpe] at d1
              obtain ⟨pk, hpk⟩ : ∃ pk, pk = l[p].kind := ⟨_, rfl⟩
              rw [← hpk] at d0 hk5
              clear hpk hpe hpv hk4 hx
              go_quiet (fail)
              go_wp2
              go_roundw
              case rel =>
                refine ⟨j + 1, J + 1, _, rfl, by go_num, by go_num, hlt, hJlt, hmd2, hide ?_, hide (fun p hp hpj _ => prev_at (by omega) hJe.out (by omega)), belowN hBx nq⟩
                rw [ByteArray.data_append, Array.toList_append, seg_list u a J hJu2]
                exact hinv3.out
              case measure => simp [intOf]; omega
            · have hpe2 : (l[p].at_ == (J : Int)) = false := by rw [beq_eq_false_iff_ne]; exact hpe
              obtain ⟨pa, hpa⟩ : ∃ pa, pa = l[p].at_ := ⟨_, rfl⟩
              rw [← hpa] at d1 hpe2
              clear hpa hpe hpv hx d0
              go_quiet (fail)
              go_wp2
              go_roundw
              case rel =>
                refine ⟨j + 1, J + 1, _, rfl, by go_num, by go_num, hlt, hJlt, hmd2, hide ?_, hide (fun p hp hpj _ => prev_at (by omega) hJe.out (by omega)), belowN hBx nq⟩
                rw [ByteArray.data_append, Array.toList_append, seg_list u a J hJu2]
                exact hinv3.out
              case measure => simp [intOf]; omega
        · obtain ⟨d, hd1, hd2, hd3⟩ := dig_lets ch (HVL.out ch hcv)
          rw [hk] at c0
          rw [hlet, hd1] at c3
          have hkE := hide hk
          have HLT := hd3
          have hmd2 : (made ++ u.extract a J ++ (⟨#[48, 49, 50, 51, 52, 53, 54, 55, 56, 57, 97, 98, 99, 100, 101, 102]⟩ : ByteArray).extract d (d + 1)).size ≤ 12 := made_le (u := u) (a := J) (r := l.drop (j + 1)) hv12 (by
            rw [ByteArray.data_append, ByteArray.data_append, Array.toList_append, Array.toList_append, seg_list u a J hJu2, hd3]; exact hinv3)
          have hinv3 := hide hinv3
          have hmm : made.size + (J - a) ≤ 12 := by simp at hmd2; omega
          have hsl := fun W => let_slice d hd2 W
          obtain ⟨cs, hcs⟩ : ∃ cs, cs = (⟨#[48, 49, 50, 51, 52, 53, 54, 55, 56, 57, 97, 98, 99, 100, 101, 102]⟩ : ByteArray).extract d (d + 1) := ⟨_, rfl⟩
          rw [← hcs] at hsl hmd2 HLT
          clear hcs
          have hz0 : (0 : Int) ≤ (d : Int) := by omega
          have hz1 : (d : Int) < 16 := by omega
          have hz2 : (d : Int) + 1 ≤ 16 := by omega
          have hcz : cs.size = 1 := by have := congrArg List.length HLT; simpa using this
          have HLT := hide HLT
          have hmx : made.size + (J - a) + cs.size ≤ 13 := by omega
          clear hk hlet hd1 hd3 hcv
          by_cases hj2 : j = 0
          · have hn3 : decide (0 < j) = false := decide_eq_false (by omega)
            clear hj2 hprev
            go_wp2_with fail
            have hBx := hBw.alloc hBw.size (Obj.cells #[Value.int .i64 5, Value.int .i64 (J : Int), Value.int .i64 1, Value.int .i64 (d : Int)] 47)
            obtain ⟨f0, f1, f2, f3⟩ := box4 wr (Value.int .i64 5) (Value.int .i64 (J : Int)) (Value.int .i64 1) (Value.int .i64 (d : Int))
            have hx := hatw.below ((Below.refl wr.heap.size wr).alloc (Nat.le_refl _) (Obj.cells #[Value.int .i64 5, Value.int .i64 (J : Int), Value.int .i64 1, Value.int .i64 (d : Int)] 47)) hgw
            generalize wr.alloc (Obj.cells #[Value.int .i64 5, Value.int .i64 (J : Int), Value.int .i64 1, Value.int .i64 (d : Int)] 47) = Wx at hBx f0 f1 f2 f3 hx ⊢
            generalize wr.heap.size = X at f0 f1 f2 f3 ⊢
            clear c0 c1 c2 c3 hatw hgw
            clear hx
            go_quiet (fail)
            go_wp2
            go_roundw
            case rel =>
              refine ⟨j + 1, J, _, rfl, rfl, by go_num, hlt, hJu2, hmd2, hide ?_, hide (fun p hp hpj hk4 => absurd hk4 (prev_kind (by omega) hkE.out)), belowN hBx nq⟩
              rw [ByteArray.data_append, ByteArray.data_append, Array.toList_append, Array.toList_append, seg_list u a J hJu2, HLT.out]
              exact hinv3.out
            case measure => simp [intOf]; omega
          · have hn3 : decide (0 < j) = true := decide_eq_true (by omega)
            obtain ⟨p, hp⟩ : ∃ p, p = j - 1 := ⟨_, rfl⟩
            have hpl : p < l.length := by omega
            have hpw : IntKind.i64.wrap ((j : Int) - 1) = (p : Int) := by rw [IntWalk.i64_in _ (by omega)]; omega
            have hp0 : (0 : Int) ≤ (p : Int) := by omega
            have hp1 : (p : Int) < (l.length : Int) := by omega
            have hpv := hprev.out p hpl (by omega)
            clear hp hj2 hprev
            go_wp2_with fail
            have hBx := hBw.alloc hBw.size (Obj.cells #[Value.int .i64 5, Value.int .i64 (J : Int), Value.int .i64 1, Value.int .i64 (d : Int)] 47)
            obtain ⟨f0, f1, f2, f3⟩ := box4 wr (Value.int .i64 5) (Value.int .i64 (J : Int)) (Value.int .i64 1) (Value.int .i64 (d : Int))
            have hx := hatw.below ((Below.refl wr.heap.size wr).alloc (Nat.le_refl _) (Obj.cells #[Value.int .i64 5, Value.int .i64 (J : Int), Value.int .i64 1, Value.int .i64 (d : Int)] 47)) hgw
            generalize wr.alloc (Obj.cells #[Value.int .i64 5, Value.int .i64 (J : Int), Value.int .i64 1, Value.int .i64 (d : Int)] 47) = Wx at hBx f0 f1 f2 f3 hx ⊢
            generalize wr.heap.size = X at f0 f1 f2 f3 ⊢
            clear c0 c1 c2 c3 hatw hgw
            obtain ⟨d0, d1, _, _⟩ := hx p hpl
            by_cases hpe : l[p].at_ = (J : Int)
            · have hk4 : ¬ l[p].kind = 4 := fun h => by have := hpv h; omega
              have hk5 : (l[p].kind == 4) = false := by rw [beq_eq_false_iff_ne]; exact hk4
              have hpe2 : ((J : Int) == (J : Int)) = true := by simp
              rw [hpe] at d1
              obtain ⟨pk, hpk⟩ : ∃ pk, pk = l[p].kind := ⟨_, rfl⟩
              rw [← hpk] at d0 hk5
              clear hpk hpe hpv hk4 hx
              go_quiet (fail)
              go_wp2
              go_roundw
              case rel =>
                refine ⟨j + 1, J, _, rfl, rfl, by go_num, hlt, hJu2, hmd2, hide ?_, hide (fun p hp hpj hk4 => absurd hk4 (prev_kind (by omega) hkE.out)), belowN hBx nq⟩
                rw [ByteArray.data_append, ByteArray.data_append, Array.toList_append, Array.toList_append, seg_list u a J hJu2, HLT.out]
                exact hinv3.out
              case measure => simp [intOf]; omega
            · have hpe2 : (l[p].at_ == (J : Int)) = false := by rw [beq_eq_false_iff_ne]; exact hpe
              obtain ⟨pa, hpa⟩ : ∃ pa, pa = l[p].at_ := ⟨_, rfl⟩
              rw [← hpa] at d1 hpe2
              clear hpa hpe hpv hx d0
              go_quiet (fail)
              go_wp2
              go_roundw
              case rel =>
                refine ⟨j + 1, J, _, rfl, rfl, by go_num, hlt, hJu2, hmd2, hide ?_, hide (fun p hp hpj hk4 => absurd hk4 (prev_kind (by omega) hkE.out)), belowN hBx nq⟩
                rw [ByteArray.data_append, ByteArray.data_append, Array.toList_append, Array.toList_append, seg_list u a J hJu2, HLT.out]
                exact hinv3.out
              case measure => simp [intOf]; omega
      · obtain rfl : j = l.length := by omega
        have hfin : made ++ u.extract a u.size = v := by
          apply ba_ext
          have h := hinv.out
          rw [List.drop_length] at h
          have h2 := inv_nil h
          rw [ByteArray.data_append, Array.toList_append, seg_list u a u.size (Nat.le_refl _), List.take_of_length_le (by simp)]
          exact h2
        have hfe : ((made ++ u.extract a u.size).toList == v.toList) = true := by rw [hfin]; simp
        have ha0 : (0 : Int) ≤ (a : Int) := by omega
        have ha1 : (a : Int) ≤ (u.size : Int) := by omega
        have hBc := hBb.trans (hBw.mono hBb.size)
        clear hfin hinv hprev HAT HST HVL hBw hBb
        go_wp2_with fail
        refine (awake47_any _).mono ?_
        rintro e w6 ⟨rfl, hB6⟩
        go_wp2
        go_ret
        exact ⟨rfl, below2 hBc hB6⟩
end Go.Proofs.Ytmajalpmbppkpaa
