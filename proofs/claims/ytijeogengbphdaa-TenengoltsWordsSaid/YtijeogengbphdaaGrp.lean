/- runs.grouped of bytes: its contract (how many parts; none empty). -/
import Derived.Test.YtijeogengbphdaaBytes
import Derived.Test.YtijeogengbphdaaDelP
set_option linter.unusedVariables false
namespace Go.Proofs.Ytijeogengbphdaa
open Go.RowKit
theorem infoBytess : (Try.prog.info? 65).map (fun i => (i.zero, i.size, i.bytes)) = some (some (.slice none 0 0), 1, 24) := by kernel_rfl
/-- the slice value v holds the values vs (of type []byte) in a row of the call's own -/
def Pts (w : World) (B : Nat) (v : Value) (vs : List Value) : Prop := w.ownsRow B 65 1 v vs.length vs
theorem wpList_app_pt {w : World} {ops : Array Oper} {rest : List Oper} {o : Oper} {a : Act} {Q : Exit → Act → World → Prop} (hgd : o.guard = none) (s x : Operand)
    (ho : o.op = .call { callee := .builtin .append, args := #[s, x], argTypes := #[106, 106] })
    (B : Nat) (v : Value) (vs : List Value) (hs : a.eval s = v) (hown : Pts w B v vs)
    (g : Nat) (y : Value) (hx : a.eval x = .slice (some ⟨g, 0, none⟩) 1 1) (hblk : w.heap[g]? = some (.cells #[y] 65 (0, 0))) (hy : y.oneCell' = true)
    (hb : vs.length ≤ 1000000) (hbase : B ≤ w.heap.size)
    (h : ∀ v' w', Pts w' B v' (vs ++ [y]) → w.grownBy w' v.ownBlock → wpList Try.prog ops Q rest (a.put o.dst v') w') : wpList Try.prog ops Q (o :: rest) a w := by
  obtain ⟨i0, hi, hz0, hz1, hz2⟩ := info_parts infoBytess
  refine wpList_append_own w hgd s x 106 ho B 65 i0 _ 1 24 Try.underlying106 hi hz0 hz1 hz2 rfl (by decide) v vs.length vs hs hown ⟨g, 0, none⟩ 1 1 [y] hx rfl (by
    intro j u hj
    have : (⟨g, 0, none⟩ : Addr).add j = ⟨g, j, none⟩ := by unfold Addr.add; split <;> simp_all
    rw [this, cell_of_row w g j _ 65 (0, 0) hblk]
    simpa using hj) (by intro u hu; rw [List.mem_singleton] at hu; subst hu; exact hy) (by unfold maxLen; omega) (by omega) hbase fun v' w' h2 h3 _ => h v' w' ?_ h3
  unfold Pts
  rw [List.length_append]
  exact h2
/-- each is a part of the row at A, not empty -/
def PtOk (A : Option Addr) (n : Nat) (vs : List Value) : Prop := ∀ x ∈ vs, ∃ g i m c', A = some ⟨g, 0, none⟩ ∧ x = .slice (some ⟨g, i, none⟩) m c' ∧ i < n ∧ 0 < m ∧ m ≤ 70000
def cntL (l : List UInt8) (k : Nat) : Nat := ((List.range k).filter (runL l)).length
theorem cntL_succ (l : List UInt8) (k : Nat) : cntL l (k + 1) = cntL l k + (if runL l k = true then 1 else 0) := by
  unfold cntL
  rw [List.range_succ, List.filter_append, List.length_append]
  by_cases h : runL l k = true <;> simp [h]
theorem cnt_step {l : List UInt8} {i : Nat} (hi : runL l i = true) : ∀ d, (∀ j, i < j → j < i + d + 1 → runL l j = false) → cntL l (i + d + 1) = cntL l i + 1
  | 0, _ => by rw [Nat.add_zero, cntL_succ, if_pos hi]
  | d + 1, h => by
    have h1 := cnt_step hi d (fun j h1 h2 => h j h1 (by omega))
    have h2 := h (i + d + 1) (by omega) (by omega)
    rw [show i + (d + 1) + 1 = (i + d + 1) + 1 by omega, cntL_succ, h1, h2]
    simp
theorem runL_ne {l : List UInt8} {k : Nat} (hk : k < l.length) (h0 : 0 < k) : runL l k = decide (l[k] ≠ l[k - 1]'(by omega)) := by
  unfold runL
  have e1 : l.getD k 0 = l[k] := by rw [List.getD_eq_getElem?_getD, List.getElem?_eq_getElem hk]; rfl
  have e2 : l.getD (k - 1) 0 = l[k - 1]'(by omega) := by rw [List.getD_eq_getElem?_getD, List.getElem?_eq_getElem (by omega)]; rfl
  rw [e1, e2, decide_eq_false (by omega), Bool.false_or]
  by_cases h : l[k] = l[k - 1]'(by omega) <;> simp [h]
theorem grp_prev {l : List UInt8} {i k : Nat} {a : UInt8} (hi : i < l.length) (ha : a = l[i]) (hkl : k ≤ l.length) (hK : ∀ j (hj : j < l.length), i < j → j < k → l[j] = a) : ∀ j (hj : j < l.length), i ≤ j → j < k → l[j] = a := fun j hj h1 h2 => by
  rcases Nat.lt_or_ge i j with h | h
  · exact hK j hj h h2
  · obtain rfl : j = i := by omega
    exact ha.symm
theorem grp_done {l : List UInt8} {i k : Nat} {a : UInt8} (hi : i < l.length) (ha : a = l[i]) (hik : i < k) (hkl : k ≤ l.length) (hK : ∀ j (hj : j < l.length), i < j → j < k → l[j] = a) (hr : runL l i = true) : cntL l k = cntL l i + 1 := by
  have hp := grp_prev hi ha hkl hK
  have h := cnt_step hr (k - i - 1) (fun j h1 h2 => by
    have hj : j < l.length := by omega
    rw [runL_ne hj (by omega), hp j hj (by omega) (by omega), hp (j - 1) (by omega) (by omega) (by omega)]
    simp)
  rwa [show i + (k - i - 1) + 1 = k by omega] at h
theorem grp_next {l : List UInt8} {i k : Nat} {a : UInt8} (hi : i < l.length) (ha : a = l[i]) (hik : i < k) (hk : k < l.length) (hK : ∀ j (hj : j < l.length), i < j → j < k → l[j] = a) (hne : l[k] ≠ a) : runL l k = true := by
  have hp := grp_prev hi ha (Nat.le_of_lt hk) hK
  rw [runL_ne hk (by omega), hp (k - 1) (by omega) (by omega) (by omega)]
  simpa using hne
set_option maxRecDepth 100000 in
set_option maxHeartbeats 4000000 in
theorem grouped_any (l : List UInt8) (A : Option Addr) (c : Nat) (hl : l.length ≤ 70000) (hlc : l.length ≤ c) (hcm : c ≤ 9223372036854775807) (w : World)
    (hA : 0 < l.length → ∃ g, A = some ⟨g, 0, none⟩ ∧ g < w.heap.size ∧ ∀ k (hk : k < l.length), w.cell? ⟨g, k, none⟩ = some (.int .u8 (l[k].toNat : Int))) :
    Calls Try.prog 92 #[.slice A l.length c] w fun e w' => ∃ v vs, e = .returned v ∧ Pts w' w.heap.size v vs ∧ PtOk A l.length vs ∧ vs.length = cntL l l.length ∧ Below w.heap.size w w' := by
  obtain ⟨B, hB⟩ : ∃ B, w.heap.size = B := ⟨_, rfl⟩
  have HA := hide hA
  clear hA
  go_enter Try.func92, Try.ntmps92
  go_wp2
  go_loopw [3, 4] (fun v iv wr => ∃ (v0 : Value) (i : Nat) (vs : List Value), v0 = v ∧ iv = .int .i64 i ∧ i ≤ l.length ∧ Pts wr B v0 vs ∧ vs.length ≤ i ∧ Hid (PtOk A l.length vs) ∧ Hid (vs.length = cntL l i ∧ (i = l.length ∨ runL l i = true)) ∧ Below B w wr) (fun _ iv _ => l.length - (intOf iv).toNat)
  case atStart => exact ⟨_, 0, [], rfl, rfl, Nat.zero_le _, World.ownsRow_nil _ _ _ _, Nat.le_refl _, hide (fun x hx => absurd hx (by simp)), hide ⟨rfl, .inr (by simp [runL])⟩, Below.refl _ _⟩
  case round =>
    obtain ⟨v0, i, vs, rfl, rfl, hi, hrow, hvl, hP, hC, hBw⟩ := hrel
    by_cases hlt : i < l.length
    · obtain ⟨g, rfl, hg, hcell⟩ := HA.out (by omega)
      have hcw : ∀ k (hk : k < l.length), wr.cell? ⟨g, k, none⟩ = some (.int .u8 (l[k].toNat : Int)) := fun k hk => (hBw.cell (p := ⟨g, k, none⟩) (by rw [← hB]; exact hg)).trans (hcell k hk)
      have HCW := hide hcw
      have hi0 : (0 : Int) ≤ (i : Int) := by omega
      have hi1 : (i : Int) < (l.length : Int) := by omega
      have hci' : ¬ c = i := by omega
      have hBs : B ≤ wr.heap.size := by have := hBw.size; omega
      have HR := hide hrow
      obtain ⟨a, ha⟩ : ∃ a, a = l[i] := ⟨_, rfl⟩
      have hci := hcw i hlt
      rw [← ha] at hci
      have HAA := hide ha
      clear hcell hcw hrow ha
      obtain ⟨wo, rfl⟩ : ∃ wo : World, wo = wr := ⟨_, rfl⟩
      go_wp2
      go_loopw [5] (fun kv wr => ∃ (k q : Nat), kv = .int .i64 k ∧ i < k ∧ k ≤ l.length ∧ Hid (∀ j (hj : j < l.length), i < j → j < k → l[j] = a) ∧ wr = wo.drewN q) (fun kv _ => l.length - (intOf kv).toNat)
      case atStart => exact ⟨i + 1, 0, by go_num, by omega, by omega, hide fun j hj h1 h2 => absurd h1 (by omega), rfl⟩
      case round =>
        obtain ⟨k, q, rfl, hik, hkl, hK, rfl⟩ := hrel
        have hk0 : (0 : Int) ≤ (k : Int) := by omega
        by_cases hkt : k < l.length
        · have hk1 : (k : Int) < (l.length : Int) := by omega
          have hkd : decide ((k : Int) < (l.length : Int)) = true := decide_eq_true hk1
          have hkd2 : decide (k < l.length) = true := decide_eq_true hkt
          have c1 := HCW.out k hkt
          obtain ⟨b, hb⟩ : ∃ b, b = l[k] := ⟨_, rfl⟩
          rw [← hb] at c1
          have HBB := hide hb
          clear hb
          by_cases hab : b = a
          · have hbe : (((b.toNat : Nat) : Int) == ((a.toNat : Nat) : Int)) = true := by rw [hab]; simp
            have HAB := hide hab
            clear hab
            go_wp2_with fail
            go_quiet (fail)
            go_wp2
            go_roundw
            case rel =>
              refine ⟨k + 1, q + nq, by go_num, by omega, by omega, hide fun j hj h1 h2 => ?_, by simp⟩
              rcases Nat.lt_or_ge j k with h | h
              · exact hK.out j hj h1 h
              · obtain rfl : j = k := by omega
                rw [← HBB.out]; exact HAB.out
            case measure => simp [intOf]; omega
          · have hbe : (((b.toNat : Nat) : Int) == ((a.toNat : Nat) : Int)) = false := by
              rw [beq_eq_false_iff_ne]; intro e; exact hab (UInt8.toNat_inj.1 (by omega))
            have HAB := hide hab
            clear hab
            go_wp2_with fail
            go_quiet (fail)
            have hrw : Pts ((wo.drewN (q + nq)).alloc (Obj.cells #[Value.slice (some ⟨g, i, none⟩) (k - i) (c - i)] 65)) B v0 vs := World.ownsRow.alloc (w := wo.drewN (q + nq)) HR.out _
            have hBx := (belowN hBw (q + nq)).alloc (show B ≤ (wo.drewN (q + nq)).heap.size from hBs) (Obj.cells #[Value.slice (some ⟨g, i, none⟩) (k - i) (c - i)] 65)
            go_wp2_with (at_builtin; refine wpList_app_pt rfl _ _ rfl B v0 vs rfl hrw wo.heap.size (.slice (some ⟨g, i, none⟩) (k - i) (c - i)) rfl (heap_alloc_new (wo.drewN (q + nq)) _) rfl (by omega) (by have := hBx.size; omega) ?_; intro v5 w5 hown5 hg5; have hBy := hBx.grown hg5 (by have := hBx.size; omega) (fun _ hk => (World.ownsRow.lt hrw _ hk).1))
            have HP2 := hide (show PtOk (some ⟨g, 0, none⟩) l.length (vs ++ [Value.slice (some ⟨g, i, none⟩) (k - i) (c - i)]) from fun x hx => by
              rcases List.mem_append.1 hx with h | h
              · exact hP.out x h
              · rw [List.mem_singleton] at h
                exact ⟨g, i, k - i, c - i, rfl, h, hlt, by omega, by omega⟩)
            have HC2 := hide (show (vs ++ [Value.slice (some ⟨g, i, none⟩) (k - i) (c - i)]).length = cntL l k ∧ (k = l.length ∨ runL l k = true) from ⟨by
              rw [List.length_append, hC.out.1, grp_done hlt HAA.out hik hkl hK.out (hC.out.2.resolve_left (by omega))]; rfl, .inr (grp_next hlt HAA.out hik hkt hK.out (by rw [← HBB.out]; exact HAB.out))⟩)
            have hl5 : (vs ++ [Value.slice (some ⟨g, i, none⟩) (k - i) (c - i)]).length ≤ k := by rw [List.length_append]; simp; omega
            clear hrw hBx hg5
            go_roundw
            case rel => exact ⟨v5, k, _, rfl, rfl, hkl, hown5, hl5, HP2, HC2, hBy⟩
            case measure => simp [intOf]; omega
        · obtain rfl : k = l.length := by omega
          have hkd : decide (((l.length : Nat) : Int) < (l.length : Int)) = false := decide_eq_false (by omega)
          have hkd2 : decide (l.length < l.length) = false := decide_eq_false (by omega)
          go_wp2_with fail
          go_quiet (fail)
          have hrw : Pts ((wo.drewN (q + nq)).alloc (Obj.cells #[Value.slice (some ⟨g, i, none⟩) (l.length - i) (c - i)] 65)) B v0 vs := World.ownsRow.alloc (w := wo.drewN (q + nq)) HR.out _
          have hBx := (belowN hBw (q + nq)).alloc (show B ≤ (wo.drewN (q + nq)).heap.size from hBs) (Obj.cells #[Value.slice (some ⟨g, i, none⟩) (l.length - i) (c - i)] 65)
          go_wp2_with (at_builtin; refine wpList_app_pt rfl _ _ rfl B v0 vs rfl hrw wo.heap.size (.slice (some ⟨g, i, none⟩) (l.length - i) (c - i)) rfl (heap_alloc_new (wo.drewN (q + nq)) _) rfl (by omega) (by have := hBx.size; omega) ?_; intro v5 w5 hown5 hg5; have hBy := hBx.grown hg5 (by have := hBx.size; omega) (fun _ hk => (World.ownsRow.lt hrw _ hk).1))
          have HP2 := hide (show PtOk (some ⟨g, 0, none⟩) l.length (vs ++ [Value.slice (some ⟨g, i, none⟩) (l.length - i) (c - i)]) from fun x hx => by
            rcases List.mem_append.1 hx with h | h
            · exact hP.out x h
            · rw [List.mem_singleton] at h
              exact ⟨g, i, l.length - i, c - i, rfl, h, hlt, by omega, by omega⟩)
          have HC2 := hide (show (vs ++ [Value.slice (some ⟨g, i, none⟩) (l.length - i) (c - i)]).length = cntL l l.length ∧ (l.length = l.length ∨ runL l l.length = true) from ⟨by
            rw [List.length_append, hC.out.1, grp_done hlt HAA.out hik hkl hK.out (hC.out.2.resolve_left (by omega))]; rfl, .inl rfl⟩)
          have hl5 : (vs ++ [Value.slice (some ⟨g, i, none⟩) (l.length - i) (c - i)]).length ≤ l.length := by rw [List.length_append]; simp; omega
          clear hrw hBx hg5
          go_roundw
          case rel => exact ⟨v5, l.length, _, rfl, rfl, hkl, hown5, hl5, HP2, HC2, hBy⟩
          case measure => simp [intOf]; omega
    · obtain rfl : i = l.length := by omega
      go_wp2
      go_ret
      exact ⟨v0, rfl, vs, by first | exact hrow | (rw [hB]; exact hrow), hP.out, hC.out.1, by first | exact hBw | (rw [hB]; exact hBw)⟩
end Go.Proofs.Ytijeogengbphdaa
