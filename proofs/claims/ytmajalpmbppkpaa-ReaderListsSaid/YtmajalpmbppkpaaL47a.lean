/- The walk of the law IndelMetric. -/
import Derived.Test.YtmajalpmbppkpaaAwake47
import Derived.Deep.RegionHeld3
import Derived.OpenShut
set_option linter.unusedVariables false
namespace Go.Proofs.Ytmajalpmbppkpaa
open Go.RowKit
theorem below3 {w w1 w2 w3 : World} (h1 : Below w.heap.size w w1) (h2 : Below w1.heap.size w1 w2) (h3 : Below w2.heap.size w2 w3) : Below w.heap.size w w3 :=
  (h1.trans (h2.mono h1.size)).trans (h3.mono (Nat.le_trans h1.size h2.size))
theorem chk_of {l : List UInt8} (hl : l.length ≤ 65536) (h : ∀ c ∈ l, okc 16 c = true) : chk 16 l = 0 := by
  unfold chk
  rw [if_neg (by omega), if_neg (by omega), if_pos (List.all_eq_true.2 h)]
theorem ckl_of {l : List ByteArray} (h : ∀ s ∈ l, s.size ≤ 256 ∧ chk 16 s.data.toList = 0) : ckl l = 0 := by
  have hf : ∀ l : List ByteArray, (∀ s ∈ l, s.size ≤ 256 ∧ chk 16 s.data.toList = 0) → ckf l = 0 := by
    intro l
    induction l with
    | nil => intro _; rfl
    | cons t l ih =>
      intro h
      rw [ckf, if_pos (h t (by simp)).2]
      exact ih fun s hs => h s (by simp [hs])
  unfold ckl
  rw [if_pos (List.all_eq_true.2 fun s hs => by simpa using (h s hs).1)]
  exact hf l h
theorem distV_of {u v : ByteArray} (hu : u.size ≤ 256 ∧ chk 16 u.data.toList = 0) (hv : v.size ≤ 256 ∧ chk 16 v.data.toList = 0) : distV u v = (((dst u v : Nat) : Int), 0) := by
  unfold distV
  rw [if_pos (ckl_of fun s hs => by
    simp only [List.mem_cons, List.not_mem_nil, or_false] at hs
    rcases hs with rfl | rfl
    · exact hu
    · exact hv)]
theorem delB_list (v : ByteArray) (k : Nat) : (delB v k).data.toList = v.data.toList.take k ++ v.data.toList.drop (k + 1) := by
  unfold delB
  rw [ByteArray.data_append, Array.toList_append, ByteArray.data_extract, ByteArray.data_extract, Array.toList_extract, Array.toList_extract, List.extract_eq_drop_take', List.extract_eq_drop_take', List.drop_zero]
  congr 1
  rw [List.take_of_length_le]
  simp
theorem fin_all {xs : List ByteArray} {n : Nat} (h : xs.all (fin n) = true) : ∀ s ∈ xs, s.size ≤ n ∧ chk 16 s.data.toList = 0 := by
  intro s hs
  have := List.all_eq_true.1 h s hs
  unfold fin at this
  simpa using this
theorem str_ne {a b : ByteArray} (h : a ≠ b) : (a.toList == b.toList) = false := by
  rw [beq_eq_false_iff_ne]
  intro e
  rw [ByteArray.toList_eq, ByteArray.toList_eq] at e
  exact h (ba_ext e)
theorem empty_t {v : ByteArray} (h : v.size = 0) : v.toList.isEmpty = true := by
  rw [ByteArray.toList_eq, List.isEmpty_iff]
  exact List.eq_nil_of_length_eq_zero (by simpa using h)
theorem empty_f {v : ByteArray} (h : ¬ v.size = 0) : v.toList.isEmpty = false := by
  rw [ByteArray.toList_eq, List.isEmpty_eq_false_iff]
  intro e
  apply h
  have := congrArg List.length e
  simpa using this
theorem str_self (s : ByteArray) : (s.toList == s.toList) = true := by simp
set_option maxRecDepth 100000 in
set_option maxHeartbeats 3000000 in
theorem lMetric_any (u v s : ByteArray) (at_ : Int) (wu : u.size ≤ maxLen) (wv : v.size ≤ maxLen) (ws : s.size ≤ maxLen) (wa : (Lit.int .u8 at_).wf = true) (w : World) :
    Calls Try.prog 4 #[.string u, .string v, .string s, .int .u8 at_] w fun e w' => e = .returned (.bool true) ∧ Below w.heap.size w w' := by
  have hrow : ∀ k (hk : k < [u, v, s].length), (w.alloc (Obj.cells #[Value.string u, Value.string v, Value.string s] 9)).cell? ⟨w.heap.size, k, none⟩ = some (.string [u, v, s][k]) := fun k hk => Strs.cell (Strs.lit w [u, v, s] (Nat.le_refl _) (by simp) _ rfl) hk
  have HF := fine_any [u, v, s] 12 w.heap.size 3 _ hrow (by simp)
  rw [show ((12 : Nat) : Int) = 12 from rfl] at HF
  have HB0 := (Below.refl w.heap.size w).alloc (Nat.le_refl _) (Obj.cells #[Value.string u, Value.string v, Value.string s] 9)
  have hz0 : (w.alloc (Obj.cells #[Value.string u, Value.string v, Value.string s] 9)).heap.size = w.heap.size + 1 := by simp
  rw [hz0] at HF
  clear hrow hz0
  cases hfine : [u, v, s].all (fin 12) with
  | false =>
    rw [hfine] at HF
    have HFF := hide HF
    have HBB := hide HB0
    clear HF HB0 hfine
    go_enter Try.func4, Try.ntmps4
    go_wp2_with fail
    refine HFF.out.mono ?_
    rintro e w1 ⟨rfl, hB1⟩
    go_wp2_with fail
    refine (awake47_any _).mono ?_
    rintro e w2 ⟨rfl, hB2⟩
    go_wp2
    go_ret
    exact ⟨rfl, (HBB.out.trans (hB1.mono (by omega))).trans (hB2.mono (by have := HBB.out.size; have := hB1.size; omega))⟩
  | true =>
    rw [hfine] at HF
    have hall := fin_all hfine
    obtain ⟨hu12, hu0⟩ := hall u (by simp)
    obtain ⟨hv12, hv0⟩ := hall v (by simp)
    obtain ⟨hs12, hs0⟩ := hall s (by simp)
    have HFF := hide HF
    have HBB := hide HB0
    clear HF HB0 hfine hall
    have C1 := fun W => dist_any u v W
    have C2 := fun W => dist_any v u W
    have C3 := fun W => dist_any v s W
    have C4 := fun W => dist_any u s W
    rw [distV_of ⟨by omega, hu0⟩ ⟨by omega, hv0⟩] at C1
    rw [distV_of ⟨by omega, hv0⟩ ⟨by omega, hu0⟩, show dst v u = dst u v from dist_sym _ _] at C2
    rw [distV_of ⟨by omega, hv0⟩ ⟨by omega, hs0⟩] at C3
    rw [distV_of ⟨by omega, hu0⟩ ⟨by omega, hs0⟩] at C4
    have hev : dst u v + 2 * lcs u.data.toList v.data.toList = u.size + v.size := by
      have := dist_lcs u.data.toList v.data.toList
      simpa [dst] using this
    have hev3 : dst v s + 2 * lcs v.data.toList s.data.toList = v.size + s.size := by
      have := dist_lcs v.data.toList s.data.toList
      simpa [dst] using this
    have htri : dst u s ≤ dst u v + dst v s := dist_tri _ _ _
    have hzero : dst u v = 0 ↔ u = v := by
      unfold dst; rw [dist_zero]
      exact ⟨ba_ext, fun h => by rw [h]⟩
    have hdel : ∀ k, k < v.size → dst u (delB v k) = dst u v + 1 ∨ dst u (delB v k) + 1 = dst u v := by
      intro k hk
      have hk' : k < v.data.toList.length := by simpa using hk
      have := dist_del u.data.toList (v.data.toList.take k) (v.data.toList.drop (k + 1)) v.data.toList[k]
      rw [← List.drop_eq_getElem_cons hk', List.take_append_drop, ← delB_list] at this
      exact this
    have hchk : ∀ k, distV u (delB v k) = (((dst u (delB v k) : Nat) : Int), 0) := by
      intro k
      have hl : (delB v k).size ≤ 256 := by unfold delB; simp; omega
      refine distV_of ⟨by omega, hu0⟩ ⟨hl, chk_of (by simp; omega) fun c hc => ?_⟩
      rw [delB_list, List.mem_append] at hc
      rcases hc with hc | hc
      · exact chk_all hv0 c (List.mem_of_mem_take hc)
      · exact chk_all hv0 c (List.mem_of_mem_drop hc)
    have hnil : v.size = 0 → dst u v = u.size := by
      intro h0
      have : v.data.toList = [] := List.eq_nil_of_length_eq_zero (by simpa using h0)
      unfold dst; rw [this, dist_nil_right]; simp
    obtain ⟨A, hA⟩ : ∃ A, A = dst u v := ⟨_, rfl⟩
    obtain ⟨C, hC⟩ : ∃ C, C = dst v s := ⟨_, rfl⟩
    obtain ⟨D, hD⟩ : ∃ D, D = dst u s := ⟨_, rfl⟩
    rw [← hA] at C1 C2 hev htri hzero hdel hnil
    rw [← hC] at C3 hev3 htri
    rw [← hD] at C4 htri
    have H1 := hide C1
    have H2 := hide C2
    have H3 := hide C3
    have H4 := hide C4
    have HDEL := hide hdel
    have HCHK := hide hchk
    have HNIL := hide hnil
    have hA24 : A ≤ 24 := by omega
    have hC24 : C ≤ 24 := by omega
    have hmod : Int.tmod ((A : Int) + (u.size : Int) + (v.size : Int)) 2 = 0 := by
      rw [Int.tmod_eq_emod_of_nonneg (by omega)]; omega
    have hle : A ≤ u.size + v.size := by omega
    have hab : ∃ b : Bool, ((A : Int) == 0) = b ∧ (u.toList == v.toList) = b := by
      by_cases e : u = v
      · have h0 := hzero.2 e
        exact ⟨true, by rw [beq_iff_eq]; omega, by rw [e]; exact str_self v⟩
      · have h0 : A ≠ 0 := fun h => e (hzero.1 h)
        exact ⟨false, by rw [beq_eq_false_iff_ne]; omega, str_ne e⟩
    obtain ⟨b, hb1, hb2⟩ := hab
    have hat : 0 ≤ at_ ∧ at_ ≤ 255 := bounds_u8 wa
    obtain ⟨a1, rfl⟩ := Int.eq_ofNat_of_zero_le hat.1
    have ha1 : a1 ≤ 255 := by omega
    have hmax : ∀ W, (Builtin.max_ #[29, 29, 29, 29] 29 #[.int .i64 0, .int .i64 0, .int .i64 0, .int .i64 0]).run Try.prog W = .ok (.int .i64 0) W := fun _ => by kernel_rfl
    clear C1 C2 C3 C4 hev hev3 hzero hdel hchk hnil hA hC hD hu0 hv0 hs0 wu wv ws wa hat
    go_enter Try.func4, Try.ntmps4
    go_wp2_with fail
    refine HFF.out.mono ?_
    rintro e w1 ⟨rfl, hB1⟩
    have hBa := HBB.out.trans (hB1.mono (by omega))
    clear HFF HBB hB1
    go_wp2_with fail
    refine (H1.out _).mono ?_
    rintro e w2 ⟨rfl, hB2⟩
    go_wp2_with fail
    refine (H2.out _).mono ?_
    rintro e w3 ⟨rfl, hB3⟩
    go_wp2_with fail
    refine (H3.out _).mono ?_
    rintro e w4 ⟨rfl, hB4⟩
    go_wp2_with fail
    refine (H4.out _).mono ?_
    rintro e w5 ⟨rfl, hB5⟩
    have hBb := below2 (below2 (below2 (below2 hBa hB2) hB3) hB4) hB5
    clear hBa hB2 hB3 hB4 hB5 H1 H2 H3 H4
    by_cases hv0 : v.size = 0
    · have hvn : v = ⟨#[]⟩ := by
        apply ba_ext
        exact List.eq_nil_of_length_eq_zero (by simpa using hv0)
      have hAu := HNIL.out hv0
      have hv1 : v.toList.isEmpty = true := empty_t hv0
      have hau : ((A : Int) == (u.size : Int)) = true := by rw [beq_iff_eq]; omega
      clear hvn hv0 hAu
      go_wp2_with fail
      refine (awake47_any _).mono ?_
      rintro e w6 ⟨rfl, hB6⟩
      go_wp2
      go_ret
      exact ⟨rfl, below2 hBb hB6⟩
    · have hv1 : v.toList.isEmpty = false := empty_f hv0
      obtain ⟨k, hk, hk2⟩ : ∃ k : Nat, (a1 : Int) % (v.size : Int) = (k : Int) ∧ k < v.size := ⟨a1 % v.size, by rw [Int.natCast_emod], Nat.mod_lt _ (by omega)⟩
      have T5 := fun W => dist_any u (delB v k) W
      rw [HCHK.out k] at T5
      obtain ⟨X, hX⟩ : ∃ X, X = dst u (delB v k) := ⟨_, rfl⟩
      have hd := HDEL.out k hk2
      rw [← hX] at T5 hd
      unfold delB at T5
      have H5 := hide T5
      clear hX T5 HDEL HCHK HNIL
      go_wp2_with fail
      rw [hk]
      have hk3 : (0 : Int) ≤ (k : Int) := by omega
      have hk4 : (k : Int) < (v.size : Int) := by omega
      have hk5 : (k : Int) + 1 ≤ (v.size : Int) := by omega
      have hk6 : (k : Int) ≤ (v.size : Int) := by omega
      have hk7 : k ≤ v.size := by omega
      have q1 : IntKind.i64.wrap ((k : Int) + 1) = (k : Int) + 1 := IntWalk.i64_in _ (by omega)
      have q2 : ((k : Int) + 1).toNat = k + 1 := by omega
      have q3 : (0 : Int) ≤ (k : Int) + 1 := by omega
      have q4 : ¬ 9223372036854775807 < k + (v.size - (k + 1)) := by omega
      have hcase : ∃ b : Bool, ((X : Int) == (A : Int) + 1) = b ∧ (b = false → ((X : Int) == (A : Int) - 1) = true) := by
        rcases hd with h | h
        · exact ⟨true, by rw [beq_iff_eq]; omega, fun h => by cases h⟩
        · exact ⟨false, by rw [beq_eq_false_iff_ne]; omega, fun _ => by rw [beq_iff_eq]; omega⟩
      have hX25 : X ≤ 25 := by omega
      clear hd
      go_region_held3 (fun _ => True) (exact trivial) ((go_at_call 25; refine (H5.out _).mono ?_; rintro e w6 ⟨rfl, hB6⟩))
      clear q1 q2 q3 q4
      have hBc := below2 hBb ((Below.refl w5.heap.size w5).drew.trans hB6)
      obtain ⟨b, hx1, hx2⟩ := hcase
      cases b with
      | true =>
        clear hx2
        go_wp2_with (go_at_call 24; refine (awake47_any _).mono ?_; rintro e w7 ⟨rfl, hB7⟩)
        go_ret
        exact ⟨rfl, below2 hBc hB7⟩
      | false =>
        have hx3 := hx2 rfl
        clear hx2
        go_wp2_with (go_at_call 24; refine (awake47_any _).mono ?_; rintro e w7 ⟨rfl, hB7⟩)
        go_ret
        exact ⟨rfl, below2 hBc hB7⟩
end Go.Proofs.Ytmajalpmbppkpaa
