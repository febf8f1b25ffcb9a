/- The walk of the law TenengoltsDisjoint. -/
import Derived.Test.YtijeogengbphdaaAwake48
import Derived.Test.YtijeogengbphdaaSyn
import Derived.Test.YtijeogengbphdaaRun
import Derived.Test.YtijeogengbphdaaDisP
import Derived.OpenShut
set_option linter.unusedVariables false
namespace Go.Proofs.Ytijeogengbphdaa
open Go.RowKit
theorem okc_16 : ∀ c : UInt8, (c = 48 ∨ c = 49) → okc 16 c = true := by
  rintro c (rfl | rfl) <;> decide
theorem chk16_bin {l : List UInt8} (h : bin l) (hl : l.length ≤ 65536) : chk 16 l = 0 := by
  unfold chk
  rw [if_neg (by omega), if_neg (by omega), if_pos (List.all_eq_true.2 fun c hc => okc_16 c (h c hc))]
theorem ckl_bin {s : ByteArray} (h : bin s.data.toList) (hs : s.size ≤ 256) : ckl [s] = 0 := by
  unfold ckl
  rw [if_pos (by simp [hs])]
  simp only [ckf]
  rw [if_pos (chk16_bin h (by simp; omega))]
theorem asc_len3 {rs : List ByteArray} {L : List (List UInt8)} (h : rs.Pairwise (fun a b => a.data.toList < b.data.toList)) (hs : ∀ z ∈ rs, z.data.toList ∈ L) : rs.length ≤ L.length := by
  have hn : (rs.map fun y => y.data.toList).Nodup := List.pairwise_map.2 (h.imp fun {a b} (hlt : a.data.toList < b.data.toList) (e : a.data.toList = b.data.toList) => by rw [e] at hlt; exact List.lt_irrefl _ hlt)
  have hsub : ∀ x ∈ (rs.map fun y => y.data.toList), x ∈ L := fun x hx => by
    obtain ⟨y, hy, rfl⟩ := List.mem_map.1 hx
    exact hs y hy
  have : ∀ (l m : List (List UInt8)), l.Nodup → (∀ x ∈ l, x ∈ m) → l.length ≤ m.length := by
    intro l
    induction l with
    | nil => intro m _ _; exact Nat.zero_le _
    | cons a l ih =>
      intro m hn hs
      rw [List.nodup_cons] at hn
      have ha : a ∈ m := hs a (by simp)
      have h1 := ih (m.erase a) hn.2 (fun x hx => by
        rw [List.mem_erase_of_ne]
        · exact hs x (by simp [hx])
        · rintro rfl; exact hn.1 hx)
      rw [List.length_erase_of_mem ha] at h1
      have : 0 < m.length := List.length_pos_of_mem ha
      rw [List.length_cons]; omega
  have h1 := this _ L hn hsub
  rwa [List.length_map] at h1
theorem delRes_le {s : ByteArray} {rs : List ByteArray} (h : DelRes s rs) : rs.length ≤ s.size := by
  have hl := asc_len3 h.1 (fun z hz => (h.2 z).1 hz)
  unfold dels at hl
  rw [List.length_map] at hl
  have := List.length_filter_le (runAt s) (List.range s.size)
  rw [List.length_range] at this
  omega
theorem str_ne_ {a b : ByteArray} (h : a ≠ b) : (a.toList == b.toList) = false := by
  rw [beq_eq_false_iff_ne]
  intro e
  rw [ByteArray.toList_eq, ByteArray.toList_eq] at e
  exact h (ba_ext e)
set_option maxRecDepth 100000 in
set_option maxHeartbeats 4000000 in
theorem lDisjoint_any (u v : ByteArray) (wu : u.size ≤ maxLen) (wv : v.size ≤ maxLen) (w : World) :
    Calls Try.prog 10 #[.string u, .string v] w fun e w' => e = .returned (.bool true) ∧ Below w.heap.size w w' := by
  by_cases hbu : (u.size : Int) ≤ 12 ∧ chk 2 u.data.toList = 0
  · have BU := hide (fun W => binary_t u 12 W hbu.1 hbu.2)
    by_cases hbv : (v.size : Int) ≤ 12 ∧ chk 2 v.data.toList = 0
    · have BV := hide (fun W => binary_t v 12 W hbv.1 hbv.2)
      by_cases hl : u.size = v.size
      · have hlb : ((u.size : Int) != (v.size : Int)) = false := by rw [bne_eq_false_iff_eq]; omega
        obtain ⟨hu12, hu2⟩ := hbu
        obtain ⟨hv12, hv2⟩ := hbv
        have hu := (bin_of_chk hu2).1
        have hv := (bin_of_chk hv2).1
        have ku := ckl_bin hu (by omega)
        have kv := ckl_bin hv (by omega)
        have T1 := fun W => tsyn_any u W
        have T2 := fun W => tsyn_any v W
        simp only [show synV u.data.toList = (((synd u.data.toList : Nat) : Int), 0) by unfold synV; rw [if_pos hu2]] at T1
        simp only [show synV v.data.toList = (((synd v.data.toList : Nat) : Int), 0) by unfold synV; rw [if_pos hv2]] at T2
        have T3 := fun W => del_any u W
        rw [ku] at T3
        have T4 := fun W => runs_any u (by omega) hu2 (chk16_bin hu (by simp; omega)) W
        have T5 := fun W => del_any v W
        rw [kv] at T5
        have HDJ := hide (fun (h1 : synd u.data.toList = synd v.data.toList) (h2 : u ≠ v) ru rv (d1 : DelRes u ru) (d2 : DelRes v rv) x hx => disjoint_dels hu hv h1 h2 d1 d2 (x := x) hx)
        have HCF := hide (fun (h1 : synd u.data.toList = synd v.data.toList) (h2 : u ≠ v) => show confV u v 1 = (false, 0) by
          have hd := disjoint_dist hu hv h1 hl h2
          have hpos : 1 ≤ u.size := by
            rcases Nat.eq_zero_or_pos u.size with h0 | h0
            · have e1 : u.data.toList = [] := List.eq_nil_of_length_eq_zero (by simpa using h0)
              have e2 : v.data.toList = [] := List.eq_nil_of_length_eq_zero (by simpa using (hl ▸ h0 : v.size = 0))
              exact absurd (ext_data (e1.trans e2.symm)) h2
            · exact h0
          have hk : ckl [u, v] = 0 := by
            unfold ckl
            rw [if_pos (by simp; omega)]
            simp only [ckf]
            rw [if_pos (chk16_bin hu (by simp; omega)), if_pos (chk16_bin hv (by simp; omega))]
          unfold confV
          rw [if_neg (by rw [hk]; simp), if_neg (by simpa using hl), if_neg (by omega), decide_eq_false hd])
        obtain ⟨a, ha⟩ : ∃ a, a = synd u.data.toList := ⟨_, rfl⟩
        obtain ⟨b, hb⟩ : ∃ b, b = synd v.data.toList := ⟨_, rfl⟩
        rw [← ha] at T1 HDJ HCF
        rw [← hb] at T2 HDJ HCF
        have H1 := hide T1
        have H2 := hide T2
        have H3 := hide T3
        have H4 := hide T4
        have H5 := hide T5
        clear T1 T2 T3 T4 T5 hu2 hv2 hu hv ku kv ha hb wu wv hl
        go_enter Try.func10, Try.ntmps10
        go_wp2_with fail
        refine (BU.out _).mono ?_
        rintro e w1 ⟨rfl, rfl⟩
        go_wp2_with fail
        refine (BV.out _).mono ?_
        rintro e w1 ⟨rfl, rfl⟩
        go_wp2_with fail
        refine (H1.out _).mono ?_
        rintro e w1 ⟨rfl, q1, rfl⟩
        go_wp2_with fail
        refine (H2.out _).mono ?_
        rintro e w1 ⟨rfl, q2, rfl⟩
        have hB0 := belowN (belowN (Below.refl w.heap.size w) q1) q2
        generalize (w.drewN q1).drewN q2 = w2 at hB0 ⊢
        go_wp2_with fail
        refine (H3.out _).mono ?_
        rintro e w3 ⟨vl, rfl, ⟨ru, hru, hru1, _⟩, hB3⟩
        obtain ⟨A, c, rfl, hR⟩ := strs_row hru
        have hDu := hru1 trivial
        have hlu := delRes_le hDu
        have HCU := hide (del_cnt hDu)
        have HDU := hide hDu
        have HRU := hide hR
        clear hru hru1 hDu hR
        go_wp2_with fail
        refine (H4.out _).mono ?_
        rintro e w4 ⟨rfl, hB4⟩
        rw [show cntL u.data.toList u.size = ru.length from HCU.out.symm]
        have hRU4 := hide (HRU.out.below hB4)
        have hBa := below2 (below2 hB0 hB3) hB4
        clear HCU HRU hB0 hB3 hB4 H1 H2 H3 H4 BU BV
        by_cases hab : a = b
        · have hab2 : ((a : Int) != (b : Int)) = false := by rw [bne_eq_false_iff_eq]; omega
          by_cases huv : u = v
          · have hse : (u.toList == v.toList) = true := by rw [huv]; simp
            clear huv hab HDJ HCF H5
            go_wp2_with (go_at_call 11; refine (awake48_any _).mono ?_; rintro e w5 ⟨rfl, hB5⟩)
            go_ret
            exact ⟨rfl, below2 hBa hB5⟩
          · have hse := str_ne_ huv
            have T6 := fun W => iconf_any u v 1 W
            rw [HCF.out hab huv] at T6
            have H6 := hide T6
            have HDK := hide (HDJ.out hab huv)
            clear huv hab HDJ HCF T6
            go_wp2_with fail
            refine (H5.out _).mono ?_
            rintro e w5 ⟨vm, rfl, ⟨rv, hrv, hrv1, _⟩, hB5⟩
            obtain ⟨A2, c2, rfl, hR2⟩ := strs_row hrv
            have hDv := hrv1 trivial
            have hlv := delRes_le hDv
            have hRU5 := hRU4.out.below hB5
            have hBn : Below w5.heap.size w5 (w5.alloc (Obj.cells #[Value.slice A2 rv.length c2] 35)) := (Below.refl _ w5).alloc (Nat.le_refl _) _
            have hbox : (w5.alloc (Obj.cells #[Value.slice A2 rv.length c2] 35)).cell? ⟨w5.heap.size, 0, none⟩ = some (.slice A2 rv.length c2) := cell_of_one (heap_alloc_new w5 _)
            have hRU6 := hRU5.below hBn
            have hR26 := hR2.below hBn
            have hsz6 : w5.heap.size < (w5.alloc (Obj.cells #[Value.slice A2 rv.length c2] 35)).heap.size := by simp
            have hBb := below2 (below2 hBa hB5) hBn
            have hany : (ru.any fun x => hasB x rv) = false := by
              rw [List.any_eq_false]
              intro x hx
              rw [hasB_no (HDK.out ru rv HDU.out hDv x hx)]
              simp
            have HANY := hide hany
            clear hrv hrv1 hDv hR2 hRU4 hRU5 hB5 hBa H5 HDK HDU hany hBn
            go_wp2_with fail
            refine (H6.out _).mono ?_
            rintro e w6 ⟨rfl, hB6⟩
            have hbox6 := (hB6.cell (p := ⟨w5.heap.size, 0, none⟩) hsz6).trans hbox
            have HCN := hide (contcf_any ru rv A A2 c c2 w5.heap.size w6 hbox6 (hR26.below hB6) (hRU6.below hB6) (by omega) (by omega))
            have hBc := below2 hBb hB6
            clear hbox hbox6 hR26 hRU6 hsz6 hB6 hBb H6
            go_wp2_with fail
            refine HCN.out.mono ?_
            rintro e w7 ⟨rfl, q, rfl⟩
            rw [HANY.out]
            have hBd := belowN hBc q
            clear HCN HANY hBc
            go_wp2_with (go_at_call 11; refine (awake48_any _).mono ?_; rintro e w8 ⟨rfl, hB8⟩)
            go_ret
            exact ⟨rfl, below2 hBd hB8⟩
        · have hab2 : ((a : Int) != (b : Int)) = true := by rw [bne_iff_ne]; omega
          clear hab HDJ HCF H5
          go_wp2_with (go_at_call 11; refine (awake48_any _).mono ?_; rintro e w5 ⟨rfl, hB5⟩)
          go_ret
          exact ⟨rfl, below2 hBa hB5⟩
      · have hlb : ((u.size : Int) != (v.size : Int)) = true := by rw [bne_iff_ne]; omega
        clear hl hbu hbv wu wv
        go_enter Try.func10, Try.ntmps10
        go_wp2_with fail
        refine (BU.out _).mono ?_
        rintro e w1 ⟨rfl, rfl⟩
        go_wp2_with fail
        refine (BV.out _).mono ?_
        rintro e w1 ⟨rfl, rfl⟩
        go_wp2_with (go_at_call 11; refine (awake48_any _).mono ?_; rintro e w5 ⟨rfl, hB5⟩)
        go_ret
        exact ⟨rfl, hB5⟩
    · have BV := hide (fun W => binary_f v 12 W hbv)
      clear hbv hbu wu wv
      go_enter Try.func10, Try.ntmps10
      go_wp2_with fail
      refine (BU.out _).mono ?_
      rintro e w1 ⟨rfl, rfl⟩
      go_wp2_with fail
      refine (BV.out _).mono ?_
      rintro e w1 ⟨rfl, rfl⟩
      go_wp2_with (go_at_call 11; refine (awake48_any _).mono ?_; rintro e w5 ⟨rfl, hB5⟩)
      go_ret
      exact ⟨rfl, hB5⟩
  · have BU := hide (fun W => binary_f u 12 W hbu)
    clear hbu wu wv
    go_enter Try.func10, Try.ntmps10
    go_wp2_with fail
    refine (BU.out _).mono ?_
    rintro e w1 ⟨rfl, rfl⟩
    go_wp2_with (go_at_call 11; refine (awake48_any _).mono ?_; rintro e w5 ⟨rfl, hB5⟩)
    go_ret
    exact ⟨rfl, hB5⟩
end Go.Proofs.Ytijeogengbphdaa
