/- The walk of the law TenengoltsPerfect. -/
import Derived.Test.YtijeogengbphdaaAwake48
import Derived.Test.YtijeogengbphdaaSyn
import Derived.Test.YtijeogengbphdaaTCor
import Derived.Test.YtijeogengbphdaaPerP
import Derived.Test.YtijeogengbphdaaConB
import Derived.OpenShut
set_option linter.unusedVariables false
namespace Go.Proofs.Ytijeogengbphdaa
open Go.RowKit
theorem okc_16 : ∀ c : UInt8, (c = 48 ∨ c = 49) → okc 16 c = true := by
  rintro c (rfl | rfl) <;> decide
theorem chk16_bin {l : List UInt8} (h : bin l) (hl : l.length ≤ 65536) : chk 16 l = 0 := by
  unfold chk
  rw [if_neg (by omega), if_neg (by omega), if_pos (List.all_eq_true.2 fun c hc => okc_16 c (h c hc))]
theorem ckl_bin {s : ByteArray} (h : bin s.data.toList) (hs : s.size ≤ 256) : ckl [s] = 0 := by
  unfold ckl
  rw [if_pos (by simp [hs])]
  simp only [ckf]
  rw [if_pos (chk16_bin h (by simp; omega))]
theorem asc_len3 {rs : List ByteArray} {L : List (List UInt8)} (h : rs.Pairwise (fun a b => a.data.toList < b.data.toList)) (hs : ∀ z ∈ rs, z.data.toList ∈ L) : rs.length ≤ L.length := by
  have hn : (rs.map fun y => y.data.toList).Nodup := List.pairwise_map.2 (h.imp fun {a b} (hlt : a.data.toList < b.data.toList) (e : a.data.toList = b.data.toList) => by rw [e] at hlt; exact List.lt_irrefl _ hlt)
  have hsub : ∀ x ∈ (rs.map fun y => y.data.toList), x ∈ L := fun x hx => by
    obtain ⟨y, hy, rfl⟩ := List.mem_map.1 hx
    exact hs y hy
  have : ∀ (l m : List (List UInt8)), l.Nodup → (∀ x ∈ l, x ∈ m) → l.length ≤ m.length := by
    intro l
    induction l with
    | nil => intro m _ _; exact Nat.zero_le _
    | cons a l ih =>
      intro m hn hs
      rw [List.nodup_cons] at hn
      have ha : a ∈ m := hs a (by simp)
      have h1 := ih (m.erase a) hn.2 (fun x hx => by
        rw [List.mem_erase_of_ne]
        · exact hs x (by simp [hx])
        · rintro rfl; exact hn.1 hx)
      rw [List.length_erase_of_mem ha] at h1
      have : 0 < m.length := List.length_pos_of_mem ha
      rw [List.length_cons]; omega
  have h1 := this _ L hn hsub
  rwa [List.length_map] at h1
theorem delRes_le {s : ByteArray} {rs : List ByteArray} (h : DelRes s rs) : rs.length ≤ s.size := by
  have hl := asc_len3 h.1 (fun z hz => (h.2 z).1 hz)
  unfold dels at hl
  rw [List.length_map] at hl
  have := List.length_filter_le (runAt s) (List.range s.size)
  rw [List.length_range] at this
  omega
set_option maxRecDepth 100000 in
set_option maxHeartbeats 2000000 in
theorem lPerfect_any (s : ByteArray) (a : Int) (ws : s.size ≤ maxLen) (wa : (Lit.int .u8 a).wf = true) (w : World) :
    Calls Try.prog 9 #[.string s, .int .u8 a] w fun e w' => e = .returned (.bool true) ∧ Below w.heap.size w w' := by
  unfold maxLen at ws
  by_cases hb : (s.size : Int) ≤ 16 ∧ chk 2 s.data.toList = 0
  · obtain ⟨h1, h2⟩ := hb
    have HC := hide h2
    have hat : 0 ≤ a ∧ a ≤ 255 := bounds_u8 wa
    obtain ⟨a1, rfl⟩ := Int.eq_ofNat_of_zero_le hat.1
    have ha1 : a1 ≤ 255 := by omega
    obtain ⟨k, hk, hk2⟩ : ∃ k : Nat, (a1 : Int) % ((s.size : Int) + 1 + 1) = (k : Int) ∧ k ≤ s.size + 1 := ⟨a1 % (s.size + 2), by rw [Int.natCast_emod]; rfl, by have := Nat.mod_lt a1 (show 0 < s.size + 2 by omega); omega⟩
    obtain ⟨x, p1, p2, p3, p4, p5⟩ := perfect s (by omega) h2 k hk2
    have T1 := fun W => tcor_any ((s.size : Int) + 1) (k : Int) s W
    simp only [p1] at T1
    have T2 := fun W => tsyn_any x W
    simp only [show synV x.data.toList = ((k : Int), 0) by unfold synV; rw [if_pos p3, p4]] at T2
    have T3 := fun W => del_any x W
    rw [ckl_bin (bin_of_chk p3).1 (by omega)] at T3
    have H1 := hide T1
    have H2 := hide T2
    have H3 := hide T3
    have HP5 := hide p5
    have hx17 : x.size ≤ 17 := by omega
    have hlen : ((x.size : Int) == (s.size : Int) + 1) = true := by rw [beq_iff_eq]; omega
    have hmax : ∀ W, (Builtin.max_ #[23, 23, 23] 23 #[.int .i64 0, .int .i64 0, .int .i64 0]).run Try.prog W = .ok (.int .i64 0) W := fun _ => by kernel_rfl
    clear h2 wa hat p1 p2 p3 p4 p5 T1 T2 T3
    go_enter Try.func9, Try.ntmps9
    go_wp2_with (go_at_call 14; refine (binary_t s 16 _ h1 HC.out).mono ?_; rintro e w' ⟨rfl, rfl⟩)
    rw [hk]
    refine (H1.out _).mono ?_
    rintro e w1 ⟨rfl, hB1⟩
    go_wp2_with fail
    refine (H2.out _).mono ?_
    rintro e w2 ⟨rfl, q, rfl⟩
    go_wp2_with fail
    refine (H3.out _).mono ?_
    rintro e w3 ⟨v, rfl, ⟨rs, hrow, hres, _⟩, hB3⟩
    obtain ⟨A, c, rfl, hR⟩ := strs_row hrow
    have hD := hres trivial
    have hl := delRes_le hD
    have CN := con_any rs s A c w3 hR (by omega)
    rw [hasB_iff.2 ((hD.2 s).2 HP5.out)] at CN
    have HCN := hide CN
    have hBb := below2 (belowN hB1 q) hB3
    clear CN hD hres hrow hR hB1 hB3 H1 H2 H3 HP5
    go_wp2_with fail
    refine HCN.out.mono ?_
    rintro e w4 ⟨rfl, q4, rfl⟩
    have hBc := belowN hBb q4
    clear HCN hBb
    go_wp2_with (go_at_call 11; refine (awake48_any _).mono ?_; rintro e w5 ⟨rfl, hB5⟩)
    go_ret
    exact ⟨rfl, below2 hBc hB5⟩
  · go_enter Try.func9, Try.ntmps9
    go_wp2_with (first
      | (go_at_call 14; refine (binary_f s 16 _ hb).mono ?_; rintro e w' ⟨rfl, rfl⟩)
      | (go_at_call 11; refine (awake48_any _).mono ?_; rintro e w' ⟨rfl, hB⟩))
    go_ret
    exact ⟨rfl, hB⟩
end Go.Proofs.Ytijeogengbphdaa
