/- indel.Separated: its contract for any list of strings and any number. -/
import Derived.Test.YtmajalpmbppkpaaRPair
set_option linter.unusedVariables false
namespace Go.Proofs.Ytmajalpmbppkpaa
open Go.RowKit
/-- a row of strings that lies in blocks that the call does not make -/
def RowS (w : World) (A : Option Addr) (xs : List ByteArray) : Prop := 0 < xs.length → ∃ a, A = some a ∧ a.block < w.heap.size ∧ ∀ k (hk : k < xs.length), w.cell? (a.add k) = some (.string xs[k])
theorem add_block (a : Addr) (k : Nat) : (a.add k).block = a.block := by unfold Addr.add; split <;> rfl
theorem add_zero_ (a : Addr) : a.add 0 = a := by unfold Addr.add; split <;> simp_all
theorem RowS.below {w w' : World} {A : Option Addr} {xs : List ByteArray} (h : RowS w A xs) (hB : Below w.heap.size w w') : RowS w' A xs := by
  intro h0
  obtain ⟨a, h1, h2, h3⟩ := h h0
  exact ⟨a, h1, Nat.lt_of_lt_of_le h2 hB.size, fun k hk => (hB.cell (by rw [add_block]; exact h2)).trans (h3 k hk)⟩
def ckAll : List ByteArray → Int
  | [] => 0
  | x :: xs => if ckl [x] ≠ 0 then ckl [x] else ckAll xs
theorem ckAll_at : ∀ {xs : List ByteArray} {k : Nat} (hk : k < xs.length), (∀ j (hj : j < xs.length), j < k → ckl [xs[j]] = 0) → ckl [xs[k]] ≠ 0 → ckAll xs = ckl [xs[k]]
  | x :: xs, 0, hk, _, h => by unfold ckAll; rw [if_pos (by simpa using h)]; rfl
  | x :: xs, k + 1, hk, h0, h => by
    unfold ckAll
    have h1 := h0 0 (by simp) (by omega)
    rw [if_neg (by simpa using h1)]
    have := ckAll_at (xs := xs) (k := k) (by simpa using hk) (fun j hj hjk => by have := h0 (j + 1) (by simpa using hj) (by omega); rwa [List.getElem_cons_succ] at this) (by simpa using h)
    simpa using this
theorem ckAll_zero : ∀ {xs : List ByteArray}, (∀ j (hj : j < xs.length), ckl [xs[j]] = 0) → ckAll xs = 0
  | [], _ => rfl
  | x :: xs, h => by
    unfold ckAll
    have h1 := h 0 (by simp)
    rw [if_neg (by simpa using h1)]
    exact ckAll_zero fun j hj => by have := h (j + 1) (by simpa using hj); rwa [List.getElem_cons_succ] at this
def let0 : List ByteArray → Nat
  | [] => 0
  | x :: _ => x.size
theorem let0_get {xs : List ByteArray} (h : 0 < xs.length) : xs[0].size = let0 xs := by cases xs with | nil => simp at h | cons x l => rfl
def near (n : Int) (u v : ByteArray) : Bool := decide (u ≠ v) && decide ((dst u v : Int) ≤ 2 * n)
def sepB (xs : List ByteArray) (n : Int) : Bool := (List.range xs.length).all fun i => (List.range i).all fun k => !near n (xs.getD i ⟨#[]⟩) (xs.getD k ⟨#[]⟩)
theorem getD_at {xs : List ByteArray} {i : Nat} (h : i < xs.length) : xs.getD i ⟨#[]⟩ = xs[i] := by simp [List.getD_eq_getElem?_getD, List.getElem?_eq_getElem h]
theorem sepB_true {xs : List ByteArray} {n : Int} (h : ∀ i k (hi : i < xs.length) (hk : k < i), near n xs[i] (xs[k]'(by omega)) = false) : sepB xs n = true := by
  unfold sepB
  rw [List.all_eq_true]
  intro i hi
  rw [List.all_eq_true]
  intro k hk
  have hi' := List.mem_range.1 hi
  have hk' := List.mem_range.1 hk
  rw [getD_at hi', getD_at (by omega), h i k hi' hk']
  rfl
theorem sepB_false {xs : List ByteArray} {n : Int} {i k : Nat} (hi : i < xs.length) (hk : k < i) (h : near n xs[i] (xs[k]'(by omega)) = true) : sepB xs n = false := by
  unfold sepB
  rw [List.all_eq_false]
  refine ⟨i, List.mem_range.2 hi, ?_⟩
  rw [Bool.not_eq_true, List.all_eq_false]
  refine ⟨k, List.mem_range.2 hk, ?_⟩
  rw [getD_at hi, getD_at (by omega), h]
  simp
def sepV (xs : List ByteArray) (n : Int) : Bool × Int :=
  if 256 < xs.length then (false, 4) else if ckAll xs ≠ 0 then (false, ckAll xs) else if ¬ ∀ x ∈ xs, x.size = let0 xs then (false, 11) else if n < 0 ∨ (let0 xs : Int) < n then (false, 2) else (sepB xs n, 0)
set_option maxRecDepth 100000 in
set_option maxHeartbeats 4000000 in
theorem isep_any (xs : List ByteArray) (A : Option Addr) (c : Nat) (n : Int) (w : World) (hR : RowS w A xs) (hc : xs.length ≤ c) (hcm : c ≤ 9223372036854775807) :
    Calls Try.prog 50 #[.slice A xs.length c, .int .i64 n] w fun e w' => e = .returned (.tuple #[.bool (sepV xs n).1, .int .i64 (sepV xs n).2]) ∧ Below w.heap.size w w' := by
  have HR := hide hR
  clear hR
  by_cases hm : 256 < xs.length
  · have HV := hide (show sepV xs n = (false, 4) by unfold sepV; rw [if_pos hm])
    have hd : decide ((256 : Int) < (xs.length : Int)) = true := decide_eq_true (by omega)
    go_enter Try.func50, Try.ntmps50
    go_wp2
    go_ret2
    exact ⟨by rw [HV.out]; rfl, Below.refl _ _⟩
  have hd : decide ((256 : Int) < (xs.length : Int)) = false := decide_eq_false (by omega)
  have hlen : xs.length ≤ 256 := by omega
  have HM := hide hm
  clear hm
  obtain ⟨B, hB⟩ : ∃ B, w.heap.size = B := ⟨_, rfl⟩
  go_enter Try.func50, Try.ntmps50
  go_wp2
  go_loopw [21] (fun iv wr => ∃ k : Nat, iv = .int .i64 k ∧ k ≤ xs.length ∧ Hid (∀ j (hj : j < xs.length), j < k → ckl [xs[j]] = 0) ∧ Below B w wr) (fun iv _ => xs.length - (intOf iv).toNat)
  case atStart => exact ⟨0, rfl, Nat.zero_le _, hide fun j _ h => absurd h (by omega), Below.refl _ _⟩
  case round =>
    obtain ⟨k, rfl, hk, hK, hBw⟩ := hrel
    by_cases hlt : k < xs.length
    · obtain ⟨a, rfl, ha, hcell⟩ := (HR.out.below (by rw [hB]; exact hBw)) (by omega)
      have c1 := hcell k hlt
      obtain ⟨x, hx⟩ : ∃ x, x = xs[k] := ⟨_, rfl⟩
      rw [← hx] at c1
      have hrow : ∀ j (hj : j < [x].length), (wr.alloc (Obj.cells #[Value.string x] 9)).cell? ⟨wr.heap.size, j, none⟩ = some (.string [x][j]) := fun j hj => Strs.cell (Strs.lit wr [x] (Nat.le_refl _) (by simp) _ rfl) hj
      have HI := icheck_any [x] wr.heap.size 1 _ hrow (by simp)
      have HB0 := hBw.alloc (by have := hBw.size; omega) (Obj.cells #[Value.string x] 9)
      have hk0 : (0 : Int) ≤ (k : Int) := by omega
      have hk1 : (k : Int) < (xs.length : Int) := by omega
      obtain ⟨z, hz⟩ : ∃ z, z = ckl [x] := ⟨_, rfl⟩
      rw [← hz] at HI
      have HII := hide HI
      have HBB := hide HB0
      have HX := hide hx
      have HZ := hide hz
      clear hrow hcell HI HB0 hx hz
      by_cases h0 : z = 0
      · subst h0
        go_wp2_with fail
        refine HII.out.mono ?_
        rintro e w1 ⟨rfl, q, rfl⟩
        go_wp2
        go_roundw
        case rel =>
          refine ⟨k + 1, by go_num, hlt, hide fun j hj hjk => ?_, belowN HBB.out q⟩
          rcases Nat.lt_or_ge j k with h | h
          · exact hK.out j hj h
          · obtain rfl : j = k := by omega
            rw [← HX.out]; exact HZ.out.symm
        case measure => simp [intOf]; omega
      · have h7 : (z != 0) = true := by simpa using h0
        have HV := hide (show sepV xs n = (false, z) by
          have h1 := ckAll_at hlt hK.out (by rw [← HX.out, ← HZ.out]; exact h0)
          rw [← HX.out, ← HZ.out] at h1
          unfold sepV
          rw [if_neg HM.out, if_pos (by rw [h1]; exact h0), h1])
        clear h0
        go_wp2_with fail
        refine HII.out.mono ?_
        rintro e w1 ⟨rfl, q, rfl⟩
        go_wp2
        go_ret2
        exact ⟨by rw [HV.out]; rfl, by first | exact belowN HBB.out q | (rw [hB]; exact belowN HBB.out q)⟩
    · obtain rfl : k = xs.length := by omega
      have HC0 := hide (ckAll_zero fun j hj => hK.out j hj hj)
      have HSZ := hide (fun j (hj : j < xs.length) => ckl_sizes (hK.out j hj hj) xs[j] (by simp))
      clear hK
      go_wp2
      obtain ⟨wo, hwo⟩ : ∃ wo : World, wo = wr := ⟨_, rfl⟩
      go_loopw [9, 34] (fun lv iv wr2 => ∃ k : Nat, lv = .int .i64 ((if k = 0 then 0 else let0 xs : Nat) : Int) ∧ iv = .int .i64 k ∧ k ≤ xs.length ∧ Hid (∀ j (hj : j < xs.length), j < k → xs[j].size = let0 xs) ∧ wr2 = wo) (fun _ iv _ => xs.length - (intOf iv).toNat)
      case atStart => exact ⟨0, rfl, rfl, Nat.zero_le _, hide fun j _ h => absurd h (by omega), hwo.symm⟩
      case round =>
        obtain ⟨k, rfl, rfl, hk, hK, rfl⟩ := hrel
        subst hwo
        by_cases hlt : k < xs.length
        · obtain ⟨a, rfl, ha, hcell⟩ := (HR.out.below (by rw [hB]; exact hBw)) (by omega)
          have c1 := hcell k hlt
          have hk0 : (0 : Int) ≤ (k : Int) := by omega
          have hk1 : (k : Int) < (xs.length : Int) := by omega
          obtain ⟨x, hx⟩ : ∃ x, x = xs[k] := ⟨_, rfl⟩
          rw [← hx] at c1
          have HX := hide hx
          clear hcell hx
          obtain ⟨L, hL⟩ : ∃ L, L = let0 xs := ⟨_, rfl⟩
          have HL := hide hL
          by_cases h0 : k = 0
          · subst h0
            have hxs : x.size = L := by rw [HX.out, hL]; exact let0_get hlt
            rw [add_zero_] at c1
            rw [← hL]
            clear hL
            go_wp2
            go_roundw
            case rel =>
              refine ⟨1, ?_, by go_num, hlt, hide fun j hj hjk => ?_, by first | exact trivial | rfl⟩
              · first | (simp; done) | (simp [hxs]; done) | (rw [HL.out] at hxs; simp [hxs])
              · obtain rfl : j = 0 := by omega
                rw [← HX.out]; first | exact hxs | (rw [← HL.out]; exact hxs)
            case measure => simp [intOf]; omega
          · rw [if_neg h0, ← hL]
            have hd2 : decide (0 < k) = true := decide_eq_true (by omega)
            by_cases hs : x.size = L
            · have hsb : ((x.size : Int) != (L : Int)) = false := by rw [bne_eq_false_iff_eq]; omega
              clear hL h0
              go_wp2
              go_roundw
              case rel =>
                refine ⟨k + 1, ?_, by go_num, hlt, hide fun j hj hjk => ?_, by first | exact trivial | rfl⟩
                · first | (simp; done) | (simp [hs]; done)
                · rcases Nat.lt_or_ge j k with h | h
                  · first | exact hK.out j hj h | (rw [HL.out]; exact hK.out j hj h)
                  · obtain rfl : j = k := by omega
                    rw [← HX.out]; first | exact hs | (rw [← HL.out]; exact hs)
              case measure => simp [intOf]; omega
            · have hsb : ((x.size : Int) != (L : Int)) = true := by rw [bne_iff_ne]; omega
              have HV := hide (show sepV xs n = (false, 11) by
                unfold sepV
                rw [if_neg HM.out, if_neg (by rw [HC0.out]; simp), if_pos (fun h => hs (by rw [HX.out, hL]; exact h _ (List.getElem_mem _)))])
              clear hL h0 hs
              go_wp2
              go_ret2
              exact ⟨by rw [HV.out]; rfl, by first | exact hBw | (rw [hB]; exact hBw)⟩
        · obtain rfl : k = xs.length := by omega
          have hLL : (if xs.length = 0 then 0 else let0 xs) = let0 xs := by
            cases xs with
            | nil => rfl
            | cons x l => rw [if_neg (by simp)]
          rw [hLL]
          have HSS := hide (fun j (hj : j < xs.length) => hK.out j hj hj)
          have HALL := hide (show ¬ ¬ ∀ x ∈ xs, x.size = let0 xs from not_not_intro fun x hx => by obtain ⟨j, hj, rfl⟩ := List.getElem_of_mem hx; exact hK.out j hj hj)
          obtain ⟨L, hL⟩ : ∃ L, L = let0 xs := ⟨_, rfl⟩
          rw [← hL]
          have HL := hide hL
          clear hK hLL hL
          by_cases hr : n < 0 ∨ (L : Int) < n
          · have HV := hide (show sepV xs n = (false, 2) by
              unfold sepV
              rw [if_neg HM.out, if_neg (by rw [HC0.out]; simp), if_neg HALL.out, ← HL.out, if_pos hr])
            by_cases h1 : n < 0
            · have hd1 : decide (n < 0) = true := decide_eq_true h1
              clear hr
              go_wp2
              go_ret2
              exact ⟨by rw [HV.out]; rfl, by first | exact hBw | (rw [hB]; exact hBw)⟩
            · have hd1 : decide (n < 0) = false := decide_eq_false h1
              have hd2 : decide ((L : Int) < n) = true := decide_eq_true (by omega)
              clear hr
              go_wp2
              go_ret2
              exact ⟨by rw [HV.out]; rfl, by first | exact hBw | (rw [hB]; exact hBw)⟩
          · have hd1 : decide (n < 0) = false := decide_eq_false (by omega)
            have hd2 : decide ((L : Int) < n) = false := decide_eq_false (by omega)
            have hn0 : 0 ≤ n := by omega
            have hnL : n ≤ (L : Int) := by omega
            have HV := hide (show sepV xs n = (sepB xs n, 0) by
              unfold sepV
              rw [if_neg HM.out, if_neg (by rw [HC0.out]; simp), if_neg HALL.out, ← HL.out, if_neg hr])
            clear hr HC0 HALL HM
            go_wp2
            go_loopw [59] (fun iv wr => ∃ i : Nat, iv = .int .i64 i ∧ i ≤ xs.length ∧ Hid (∀ i' k' (hi : i' < xs.length) (hk : k' < i'), i' < i → near n xs[i'] (xs[k']'(by omega)) = false) ∧ Below B w wr) (fun iv _ => xs.length - (intOf iv).toNat)
            case atStart => exact ⟨0, rfl, Nat.zero_le _, hide fun _ _ _ _ h => absurd h (by omega), hBw⟩
            case round =>
              obtain ⟨i, rfl, hi, hI, hBi⟩ := hrel
              by_cases hlt : i < xs.length
              · obtain ⟨a, rfl, ha, hcell⟩ := (HR.out.below (by rw [hB]; exact hBi)) (by omega)
                have c1 := hcell i hlt
                obtain ⟨u, hu⟩ : ∃ u, u = xs[i] := ⟨_, rfl⟩
                rw [← hu] at c1
                have HU := hide hu
                have hi0 : (0 : Int) ≤ (i : Int) := by omega
                have hi1 : (i : Int) < (xs.length : Int) := by omega
                have hic : (i : Int) ≤ (c : Int) := by omega
                have hu6 : u.size ≤ 256 := by rw [hu]; exact HSZ.out i hlt
                have huL : u.size = L := by rw [hu, HL.out]; exact HSS.out i hlt
                clear hcell hu
                go_wp2
                go_loopw [68] (fun kv wr => ∃ k : Nat, kv = .int .i64 k ∧ k ≤ i ∧ Hid (∀ k' (hk : k' < i), k' < k → near n xs[i] (xs[k']'(by omega)) = false) ∧ Below B w wr) (fun kv _ => i - (intOf kv).toNat)
                case atStart => exact ⟨0, rfl, Nat.zero_le _, hide fun _ _ h => absurd h (by omega), hBi⟩
                case round =>
                  obtain ⟨k, rfl, hk, hK, hBk⟩ := hrel
                  clear c1
                  by_cases hlk : k < i
                  · obtain ⟨a', e', hab, hcell⟩ := (HR.out.below (by rw [hB]; exact hBk)) (by omega)
                    cases e'
                    have hkx : k < xs.length := by omega
                    have c2 := hcell k hkx
                    obtain ⟨v, hv⟩ : ∃ v, v = xs[k] := ⟨_, rfl⟩
                    rw [← hv] at c2
                    have HVV := hide hv
                    have hk0 : (0 : Int) ≤ (k : Int) := by omega
                    have hk1 : (k : Int) < (i : Int) := by omega
                    have hv6 : v.size ≤ 256 := by rw [hv]; exact HSZ.out k hkx
                    have hvL : v.size = L := by rw [hv, HL.out]; exact HSS.out k hkx
                    have HNN : Hid (near n xs[i] xs[k] = near n u v) := by rw [HU.out, HVV.out]; exact hide rfl
                    clear hcell hv
                    by_cases he : u = v
                    · have HN := hide (show near n u v = false by simp [near, he])
                      subst he
                      go_wp2
                      go_roundw
                      case rel =>
                        refine ⟨k + 1, by go_num, hlk, hide fun k' hk' h => ?_, hBk⟩
                        rcases Nat.lt_or_ge k' k with h' | h'
                        · exact hK.out k' hk' h'
                        · obtain rfl : k' = k := by omega
                          exact HNN.out.trans HN.out
                      case measure => simp [intOf]; omega
                    · have heb : ¬ u.toList = v.toList := fun e => he (by rw [ByteArray.toList_eq, ByteArray.toList_eq] at e; cases u; cases v; simp_all)
                      have heb2 : (u.toList == v.toList) = false := by simpa using heb
                      have hdl := dist_lcs u.data.toList v.data.toList
                      obtain ⟨hl1, hl2⟩ := lcsAt_le0 u v
                      have HD := hide (show near n u v = decide ((L : Int) - (lcsAt u v 0 0 : Int) ≤ n) by
                        unfold near
                        rw [decide_eq_true he, Bool.true_and, lcsAt_zero]
                        simp at hdl
                        unfold dst
                        exact decide_eq_decide.2 (by omega))
                      obtain ⟨Lc, hLc⟩ : ∃ Lc, Lc = lcsAt u v 0 0 := ⟨_, rfl⟩
                      rw [← hLc] at HD hl1 hl2
                      have HLc := hide hLc
                      obtain ⟨C, hC⟩ : ∃ C, wr.heap.size = C := ⟨_, rfl⟩
                      have hCB : B ≤ C := by have := hBk.size; omega
                      clear hLc he hdl
                      go_wp2_with fail
                      refine (table_b u v hu6 hv6 _ C hC).mono ?_
                      rintro e w2 ⟨rfl, hT, hB2⟩
                      go_wp2_with fail
                      refine (tab_at0 u v hu6 hv6 C w2 hT).mono ?_
                      rintro e w3 ⟨rfl, hT3, hB3⟩
                      rw [← HLc.out]
                      have hB4 := hBk.trans ((hB2.trans (hB3.below (by omega))).mono hCB)
                      clear hT hT3 hB2 hB3
                      by_cases hle : (L : Int) - (Lc : Int) ≤ n
                      · have HF := hide (sepB_false hlt hlk (HNN.out.trans (HD.out.trans (decide_eq_true hle))))
                        go_wp2
                        go_ret2
                        exact ⟨by rw [HV.out, HF.out]; rfl, by first | exact hB4 | (rw [hB]; exact hB4)⟩
                      · have HN := hide (HD.out.trans (decide_eq_false hle))
                        go_wp2
                        go_roundw
                        case rel =>
                          refine ⟨k + 1, by go_num, hlk, hide fun k' hk' h => ?_, hB4⟩
                          rcases Nat.lt_or_ge k' k with h' | h'
                          · exact hK.out k' hk' h'
                          · obtain rfl : k' = k := by omega
                            exact HNN.out.trans HN.out
                        case measure => simp [intOf]; omega
                  · obtain rfl : k = i := by omega
                    go_wp2
                    go_roundw
                    case rel =>
                      refine ⟨k + 1, by go_num, hlt, hide fun i' k' hi' hk' h => ?_, hBk⟩
                      rcases Nat.lt_or_ge i' k with h' | h'
                      · exact hI.out i' k' hi' hk' h'
                      · obtain rfl : i' = k := by omega
                        exact hK.out k' hk' hk'
                    case measure => simp [intOf]; omega
              · obtain rfl : i = xs.length := by omega
                have HS := hide (sepB_true (n := n) fun i' k' hi' hk' => hI.out i' k' hi' hk' hi')
                go_wp2
                go_ret2
                exact ⟨by rw [HV.out, HS.out]; rfl, by first | exact hBi | (rw [hB]; exact hBi)⟩
end Go.Proofs.Ytmajalpmbppkpaa
