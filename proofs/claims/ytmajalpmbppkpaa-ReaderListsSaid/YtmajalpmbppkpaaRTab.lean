/- grooveref47.table: the distances of all ends of two words. -/
import Derived.Test.YtmajalpmbppkpaaScr
set_option linter.unusedVariables false
namespace Go.Proofs.Ytmajalpmbppkpaa
open Go.RowKit
/-- rows from I on are done (O: the outer block; row t lies in block O + 1 + (size - t)) -/
structure RT (W w : World) (O : Nat) (u v : ByteArray) (I : Nat) : Prop where
  size : w.heap.size + I = O + 2 + u.size
  room : ∀ t, t ≤ u.size → ∃ x, w.cell? ⟨O, t, none⟩ = some x
  free : ∀ t, w.frozen? ⟨O, t, none⟩ = false
  outer : ∀ t, I ≤ t → t ≤ u.size → w.cell? ⟨O, t, none⟩ = some (.slice (some ⟨O + 1 + (u.size - t), 0, none⟩) (v.size + 1) (v.size + 1))
  rows : ∀ t, I ≤ t → t ≤ u.size → ∀ q, q ≤ v.size → w.cell? ⟨O + 1 + (u.size - t), q, none⟩ = some (.int .i64 ((dAt u v t q : Nat) : Int))
  bel : Below O W w
/-- .. and of row i those from K on -/
structure RK (W w : World) (O : Nat) (u v : ByteArray) (i K : Nat) : Prop where
  size : w.heap.size + i = O + 2 + u.size
  room : ∀ t, t ≤ u.size → ∃ x, w.cell? ⟨O, t, none⟩ = some x
  free : ∀ t, w.frozen? ⟨O, t, none⟩ = false
  outer : ∀ t, i ≤ t → t ≤ u.size → w.cell? ⟨O, t, none⟩ = some (.slice (some ⟨O + 1 + (u.size - t), 0, none⟩) (v.size + 1) (v.size + 1))
  rows : ∀ t, i + 1 ≤ t → t ≤ u.size → ∀ q, q ≤ v.size → w.cell? ⟨O + 1 + (u.size - t), q, none⟩ = some (.int .i64 ((dAt u v t q : Nat) : Int))
  cur : ∀ q, K ≤ q → q ≤ v.size → w.cell? ⟨O + 1 + (u.size - i), q, none⟩ = some (.int .i64 ((dAt u v i q : Nat) : Int))
  croom : ∀ q, q ≤ v.size → ∃ x, w.cell? ⟨O + 1 + (u.size - i), q, none⟩ = some x
  cfree : ∀ q, w.frozen? ⟨O + 1 + (u.size - i), q, none⟩ = false
  bel : Below O W w
theorem RK.done {W w : World} {O i : Nat} {u v : ByteArray} (h : RK W w O u v i 0) : RT W w O u v i :=
  ⟨h.size, h.room, h.free, h.outer, fun t h1 h2 q hq => by
    rcases Nat.lt_or_ge i t with hlt | hge
    · exact h.rows t hlt h2 q hq
    · obtain rfl : t = i := by omega
      exact h.cur q (Nat.zero_le _) hq, h.bel⟩
theorem frozen_set (w : World) (p a : Addr) (x : Value) : (w.setCell p x).frozen? a = w.frozen? a := by
  simp [World.frozen?, World.setCell, Array.getElem?_modify]
  by_cases h : p.block = a.block
  · rw [if_pos h]
    cases hh : w.heap[a.block]? with
    | none => simp
    | some o => cases o <;> simp
  · rw [if_neg h]
theorem RK.put {W w : World} {O i K : Nat} {u v : ByteArray} (h : RK W w O u v i (K + 1)) (hK : K ≤ v.size) (hi : i ≤ u.size) {d : Int} (hd : d = ((dAt u v i K : Nat) : Int)) :
    RK W (w.setCell ⟨O + 1 + (u.size - i), K, none⟩ (.int .i64 d)) O u v i K := by
  subst hd
  have ho : ∀ (b q : Nat), (b ≠ O + 1 + (u.size - i) ∨ q ≠ K) → (w.setCell ⟨O + 1 + (u.size - i), K, none⟩ (.int .i64 ((dAt u v i K : Nat) : Int))).cell? ⟨b, q, none⟩ = w.cell? ⟨b, q, none⟩ := by
    intro b q hne
    refine World.cell?_setCell_other _ _ _ _ (fun e => ?_)
    simp only [Addr.mk.injEq] at e
    rcases hne with h | h
    · exact h e.1.symm
    · exact h e.2.1.symm
  refine ⟨by simpa [World.setCell] using h.size, fun t ht => by rw [ho O t (.inl (by omega))]; exact h.room t ht, fun t => by rw [frozen_set]; exact h.free t, fun t h1 h2 => by rw [ho O t (.inl (by omega))]; exact h.outer t h1 h2,
    fun t h1 h2 q hq => by rw [ho _ q (.inl (by omega))]; exact h.rows t h1 h2 q hq, fun q h1 h2 => ?_, fun q hq => ?_, fun q => by rw [frozen_set]; exact h.cfree q, h.bel.setCell (p := ⟨O + 1 + (u.size - i), K, none⟩) (by simp only []; omega) _⟩
  · by_cases e : q = K
    · subst e
      obtain ⟨x, hx⟩ := h.croom q hK
      exact World.cell?_setCell_same _ _ _ hx
    · rw [ho _ q (.inr e)]; exact h.cur q (by omega) h2
  · by_cases e : q = K
    · subst e
      obtain ⟨x, hx⟩ := h.croom q hK
      exact ⟨_, World.cell?_setCell_same _ _ _ hx⟩
    · rw [ho _ q (.inr e)]; exact h.croom q hq
theorem RK.drew {W w : World} {O i K : Nat} {u v : ByteArray} (h : RK W w O u v i K) : RK W w.drew O u v i K := ⟨h.size, h.room, h.free, h.outer, h.rows, h.cur, h.croom, h.cfree, h.bel.drew⟩
theorem RK.drewN {W w : World} {O i K : Nat} {u v : ByteArray} (h : RK W w O u v i K) (n : Nat) : RK W (w.drewN n) O u v i K := ⟨by simpa using h.size, h.room, h.free, h.outer, h.rows, h.cur, h.croom, h.cfree, belowN h.bel n⟩
theorem dAt_same {u v : ByteArray} {i k : Nat} (hi : i < u.size) (hk : k < v.size) (h : u[i] = v[k]) : dAt u v i k = dAt u v (i + 1) (k + 1) := by
  have h1 : i < u.data.toList.length := by simpa using hi
  have h2 : k < v.data.toList.length := by simpa using hk
  unfold dAt
  rw [List.drop_eq_getElem_cons h1, List.drop_eq_getElem_cons h2, dist, if_pos]
  exact h
theorem dAt_other {u v : ByteArray} {i k : Nat} (hi : i < u.size) (hk : k < v.size) (h : u[i] ≠ v[k]) : dAt u v i k = 1 + min (dAt u v (i + 1) k) (dAt u v i (k + 1)) := by
  have h1 : i < u.data.toList.length := by simpa using hi
  have h2 : k < v.data.toList.length := by simpa using hk
  unfold dAt
  rw [List.drop_eq_getElem_cons h1, List.drop_eq_getElem_cons h2, dist, if_neg]
  exact h
theorem cell_heap {w : World} {b : Nat} {cs : Array Value} {T : TypeId} {fr : Nat × Nat} (hb : w.heap[b]? = some (.cells cs T fr)) (j : Nat) : w.cell? ⟨b, j, none⟩ = cs[j]? := by simp [World.cell?, hb]
theorem frozen_heap {w : World} {b : Nat} {cs : Array Value} {T : TypeId} (hb : w.heap[b]? = some (.cells cs T (0, 0))) (j : Nat) : w.frozen? ⟨b, j, none⟩ = false := by simp [World.frozen?, hb]
theorem infoInts : (Try.prog.info? 26).map (fun i => (i.zero, i.size, i.bytes)) = some (some (.slice none 0 0), 1, 24) := by kernel_rfl
theorem run_make_intss (n : Nat) (hn : n ≤ 70000) (w : World) :
    (Instr.makeSlice 23 (.int .i64 (n : Int)) (.int .i64 (n : Int))).run Try.prog w = .ok (.slice (some ⟨w.heap.size, 0, none⟩) n n) (w.alloc (.cells (Array.replicate n (Value.slice none 0 0)) 26)) := by
  obtain ⟨i0, hi, hz0, hz1, hz2⟩ := info_parts infoInts
  have h := run_make (P := Try.prog) w 23 26 i0 _ Try.underlying23 hi hz0 .i64 .i64 n n (by omega) (by omega) (by rw [hz2]; omega) (by omega)
  simp only [Int.toNat_natCast, hz1, Nat.mul_one] at h
  rw [h, made_ints _ rfl]
  simp
theorem run_make_ints2 (n : Nat) (hn : n ≤ 70000) (w : World) :
    (Instr.makeSlice 26 (.int .i64 (n : Int)) (.int .i64 (n : Int))).run Try.prog w = .ok (.slice (some ⟨w.heap.size, 0, none⟩) n n) (w.alloc (.cells (Array.replicate n (Value.int .i64 0)) 3)) := by
  rw [run_make_ints n hn w]; simp
theorem RT.start (w : World) (u v : ByteArray) : RT w (w.alloc (.cells (Array.replicate (u.size + 1) (Value.slice none 0 0)) 26)) w.heap.size u v (u.size + 1) := by
  have hc : ∀ t, (w.alloc (.cells (Array.replicate (u.size + 1) (Value.slice none 0 0)) 26)).cell? ⟨w.heap.size, t, none⟩ = (Array.replicate (u.size + 1) (Value.slice none 0 0))[t]? := fun t => cell_heap (heap_alloc_new w _) t
  refine ⟨by simp; omega, fun t ht => ⟨_, by rw [hc]; exact Array.getElem?_eq_getElem (by simp; omega)⟩, fun t => frozen_heap (heap_alloc_new w _) t, fun t h1 h2 => by omega, fun t h1 h2 => by omega, (Below.refl _ w).alloc (Nat.le_refl _) _⟩
theorem RT.open_ {W w : World} {O i : Nat} {u v : ByteArray} (h : RT W w O u v (i + 1)) (hi : i ≤ u.size) :
    RK W ((w.alloc (.cells (Array.replicate (v.size + 1) (Value.int .i64 0)) 3)).setCell ⟨O, i, none⟩ (.slice (some ⟨O + 1 + (u.size - i), 0, none⟩) (v.size + 1) (v.size + 1))) O u v i (v.size + 1) := by
  have hz : w.heap.size = O + 1 + (u.size - i) := by have := h.size; omega
  have hold : ∀ b q, b < w.heap.size → (b ≠ O ∨ q ≠ i) → ((w.alloc (.cells (Array.replicate (v.size + 1) (Value.int .i64 0)) 3)).setCell ⟨O, i, none⟩ (.slice (some ⟨O + 1 + (u.size - i), 0, none⟩) (v.size + 1) (v.size + 1))).cell? ⟨b, q, none⟩ = w.cell? ⟨b, q, none⟩ := by
    intro b q hb hne
    rw [World.cell?_setCell_other _ _ _ _ (fun e => by
      simp only [Addr.mk.injEq] at e
      rcases hne with h | h
      · exact h e.1.symm
      · exact h e.2.1.symm)]
    exact World.cell?_alloc_lt w _ ⟨b, q, none⟩ hb
  have hnew : ∀ q, ((w.alloc (.cells (Array.replicate (v.size + 1) (Value.int .i64 0)) 3)).setCell ⟨O, i, none⟩ (.slice (some ⟨O + 1 + (u.size - i), 0, none⟩) (v.size + 1) (v.size + 1))).cell? ⟨O + 1 + (u.size - i), q, none⟩ = (Array.replicate (v.size + 1) (Value.int .i64 0))[q]? := by
    intro q
    rw [World.cell?_setCell_other _ _ _ _ (fun e => by simp only [Addr.mk.injEq] at e; omega), ← hz]
    exact cell_heap (heap_alloc_new w _) q
  have hal : ∀ t, (w.alloc (.cells (Array.replicate (v.size + 1) (Value.int .i64 0)) 3)).cell? ⟨O, t, none⟩ = w.cell? ⟨O, t, none⟩ := fun t => World.cell?_alloc_lt w _ ⟨O, t, none⟩ (by simp only []; omega)
  have hset : ((w.alloc (.cells (Array.replicate (v.size + 1) (Value.int .i64 0)) 3)).setCell ⟨O, i, none⟩ (.slice (some ⟨O + 1 + (u.size - i), 0, none⟩) (v.size + 1) (v.size + 1))).cell? ⟨O, i, none⟩ = some (.slice (some ⟨O + 1 + (u.size - i), 0, none⟩) (v.size + 1) (v.size + 1)) := by
    obtain ⟨x, hx⟩ := h.room i hi
    exact World.cell?_setCell_same _ _ _ ((hal i).trans hx)
  refine ⟨by simp [World.setCell]; omega, fun t ht => ?_, fun t => ?_, fun t h1 h2 => ?_, fun t h1 h2 q hq => ?_, fun q h1 h2 => by omega, fun q hq => ⟨_, by rw [hnew]; exact Array.getElem?_eq_getElem (by simp; omega)⟩, fun q => ?_, ?_⟩
  · by_cases e : t = i
    · subst e; exact ⟨_, hset⟩
    · rw [hold O t (by omega) (.inr e)]; exact h.room t ht
  · rw [frozen_set]
    exact (World.frozen?_of_block (w := w) (a := ⟨O, t, none⟩) (Below.heap_alloc w _ O (by omega))).trans (h.free t)
  · by_cases e : t = i
    · subst e; exact hset
    · rw [hold O t (by omega) (.inr e)]; exact h.outer t (by omega) h2
  · rw [hold _ q (by omega) (.inl (by omega))]; exact h.rows t h1 h2 q hq
  · rw [frozen_set, ← hz]
    exact frozen_heap (heap_alloc_new w _) q
  · exact (h.bel.alloc (by omega) _).setCell (p := ⟨O, i, none⟩) (Nat.le_refl _) _
set_option maxRecDepth 100000 in
set_option maxHeartbeats 4000000 in
theorem rtable_any (u v : ByteArray) (hu : u.size ≤ 256) (hv : v.size ≤ 256) (w : World) (O : Nat) (hO : w.heap.size = O) :
    Calls Try.prog 69 #[.string u, .string v] w fun e w' => e = .returned (.slice (some ⟨O, 0, none⟩) (u.size + 1) (u.size + 1)) ∧ RT w w' O u v 0 := by
  have hst := RT.start w u v
  rw [hO] at hst
  have hm1 := fun W => run_make_intss (u.size + 1) (by omega) W
  have hm2 := fun W => run_make_ints2 (v.size + 1) (by omega) W
  rw [show ((u.size + 1 : Nat) : Int) = (u.size : Int) + 1 by omega] at hm1
  rw [show ((v.size + 1 : Nat) : Int) = (v.size : Int) + 1 by omega] at hm2
  go_enter Try.func69, Try.ntmps69
  go_wp2_with fail
  go_loopw [6] (fun iv wr => ∃ I : Nat, iv = .int .i64 ((I : Int) - 1) ∧ I ≤ u.size + 1 ∧ RT w wr O u v I) (fun iv _ => (intOf iv + 1).toNat)
  case atStart => exact ⟨u.size + 1, by go_num, Nat.le_refl _, hst⟩
  case round =>
    obtain ⟨I, rfl, hI, hT⟩ := hrel
    clear hst
    rcases Nat.eq_zero_or_pos I with rfl | hpos
    · go_wp2
      go_ret
      exact ⟨rfl, hT⟩
    · obtain ⟨i, rfl⟩ : ∃ i, I = i + 1 := ⟨I - 1, by omega⟩
      have hin : i ≤ u.size := by omega
      rw [show (((i + 1 : Nat) : Int) - 1) = (i : Int) by omega]
      have hz : wr.heap.size = O + 1 + (u.size - i) := by have := hT.size; omega
      have hK0 := hT.open_ hin
      obtain ⟨x0, hx0⟩ := hT.room i hin
      have hx1 := (World.cell?_alloc_lt wr (.cells (Array.replicate (v.size + 1) (Value.int .i64 0)) 3) ⟨O, i, none⟩ (by simp only []; omega)).trans hx0
      have hf1 := (World.frozen?_of_block (w := wr) (a := ⟨O, i, none⟩) (Below.heap_alloc wr (.cells (Array.replicate (v.size + 1) (Value.int .i64 0)) 3) O (by omega))).trans (hT.free i)
      have hi0 : (0 : Int) ≤ (i : Int) := by omega
      have hi1 : (i : Int) < (u.size : Int) + 1 := by omega
      clear hT hx0
      have hi2 : IntKind.i64.wrap ((i : Int) + 1) = (i : Int) + 1 := IntWalk.i64_in _ (by omega)
      go_wp2_with fail
      generalize (wr.alloc (Obj.cells (Array.replicate (v.size + 1) (Value.int .i64 0)) 3)).setCell ⟨O, i, none⟩ (.slice (some ⟨O + 1 + (u.size - i), 0, none⟩) (v.size + 1) (v.size + 1)) = W1 at hK0 ⊢
      clear hx1 hf1 hz
      obtain ⟨wo, rfl⟩ : ∃ wo : World, wo = wr := ⟨_, rfl⟩
      go_loopw [7] (fun kv wr => ∃ K : Nat, kv = .int .i64 ((K : Int) - 1) ∧ K ≤ v.size + 1 ∧ RK w wr O u v i K) (fun kv _ => (intOf kv + 1).toNat)
      case atStart => exact ⟨v.size + 1, by go_num, Nat.le_refl _, hK0⟩
      case round =>
        obtain ⟨K, rfl, hKl, hK⟩ := hrel
        clear hK0
        rcases Nat.eq_zero_or_pos K with rfl | hposK
        · go_wp2
          go_roundw
          case rel => exact ⟨i, rfl, by omega, hK.done⟩
          case measure => simp [intOf] <;> omega
        · obtain ⟨k, rfl⟩ : ∃ k, K = k + 1 := ⟨K - 1, by omega⟩
          have hkm : k ≤ v.size := by omega
          rw [show (((k + 1 : Nat) : Int) - 1) = (k : Int) by omega]
          have hk0 : (0 : Int) ≤ (k : Int) := by omega
          have hk1 : (k : Int) < (v.size : Int) + 1 := by omega
          have co := hK.outer i (Nat.le_refl _) hin
          obtain ⟨x1, cx⟩ := hK.croom k hkm
          have cf := hK.cfree k
          by_cases h1 : i = u.size
          · have h1b : ((i : Int) == (u.size : Int)) = true := by rw [beq_iff_eq]; omega
            have HP := hide (hK.put hkm hin (show ((v.size : Int) - (k : Int)) = ((dAt u v i k : Nat) : Int) by rw [dAt_end_left (by omega)]; omega))
            clear h1
            go_wp2_with fail
            go_roundw
            case rel => exact ⟨k, rfl, by omega, HP.out⟩
            case measure => simp [intOf] <;> omega
          · have h1b : ((i : Int) == (u.size : Int)) = false := by rw [beq_eq_false_iff_ne]; omega
            have hiu : i < u.size := by omega
            by_cases h2 : k = v.size
            · have h2b : ((k : Int) == (v.size : Int)) = true := by rw [beq_iff_eq]; omega
              have HP := hide (hK.put hkm hin (show ((u.size : Int) - (i : Int)) = ((dAt u v i k : Nat) : Int) by rw [dAt_end_right (by omega)]; omega))
              clear h1 h2
              go_wp2_with fail
              go_roundw
              case rel => exact ⟨k, rfl, by omega, HP.out⟩
              case measure => simp [intOf] <;> omega
            · have h2b : ((k : Int) == (v.size : Int)) = false := by rw [beq_eq_false_iff_ne]; omega
              have hkv : k < v.size := by omega
              have hi3 : (i : Int) < (u.size : Int) := by omega
              have hk3 : (k : Int) < (v.size : Int) := by omega
              have hi4 : (0 : Int) ≤ (i : Int) + 1 := by omega
              have hi5 : (i : Int) + 1 < (u.size : Int) + 1 := by omega
              have hi6 : ((i : Int) + 1).toNat = i + 1 := by omega
              have hk4 : (0 : Int) ≤ (k : Int) + 1 := by omega
              have hk5 : (k : Int) + 1 < (v.size : Int) + 1 := by omega
              have hk6 : ((k : Int) + 1).toNat = k + 1 := by omega
              have hk7 : IntKind.i64.wrap ((k : Int) + 1) = (k : Int) + 1 := IntWalk.i64_in _ (by omega)
              have co1 := hK.outer (i + 1) (by omega) (by omega)
              by_cases he : u[i] = v[k]
              · have heb : ((u[i].toNat : Int) == (v[k].toNat : Int)) = true := by rw [he]; simp
                have cr := hK.rows (i + 1) (Nat.le_refl _) (by omega) (k + 1) (by omega)
                rw [← dAt_same hiu hkv he] at cr
                have hD := dAt_lcs u v i k hin hkm
                obtain ⟨D, hDe⟩ : ∃ D, D = dAt u v i k := ⟨_, rfl⟩
                rw [← hDe] at cr hD
                have HP := hide (fun nq => (hK.drewN nq).put hkm hin (show ((D : Nat) : Int) = ((dAt u v i k : Nat) : Int) by rw [hDe]))
                clear hDe h1 h2 he hD
                go_wp2_with fail
                go_quiet (fail)
                go_wp2_with fail
                go_region
                go_wp2
                go_roundw
                case rel => exact ⟨k, rfl, by omega, HP.out _⟩
                case measure => simp [intOf] <;> omega
              · have heb : ((u[i].toNat : Int) == (v[k].toNat : Int)) = false := by
                  rw [beq_eq_false_iff_ne]; intro e; apply he
                  exact UInt8.toNat_inj.1 (by omega)
                have cr1 := hK.rows (i + 1) (Nat.le_refl _) (by omega) k hkm
                have cr2 := hK.cur (k + 1) (Nat.le_refl _) (by omega)
                have hD := dAt_other hiu hkv he
                have hb1 := dAt_lcs u v (i + 1) k (by omega) hkm
                have hb2 := dAt_lcs u v i (k + 1) hin (by omega)
                obtain ⟨L1, hL1⟩ : ∃ L1, L1 = dAt u v (i + 1) k := ⟨_, rfl⟩
                obtain ⟨L2, hL2⟩ : ∃ L2, L2 = dAt u v i (k + 1) := ⟨_, rfl⟩
                rw [← hL1] at cr1 hD hb1
                rw [← hL2] at cr2 hD hb2
                obtain ⟨M, hM⟩ : ∃ M, M = min L1 L2 := ⟨_, rfl⟩
                rw [← hM] at hD
                have hM6 : M ≤ 600 := by omega
                have hMx : (if L2 < L1 then ((L2 : Nat) : Int) else ((L1 : Nat) : Int)) = ((M : Nat) : Int) := by split <;> omega
                have hMw : IntKind.i64.wrap (1 + (M : Int)) = 1 + (M : Int) := IntWalk.i64_in _ (by omega)
                have HP := hide (fun nq => (hK.drewN nq).put hkm hin (show (1 + ((M : Nat) : Int)) = ((dAt u v i k : Nat) : Int) by rw [hD]; omega))
                clear hD hb1 hb2 hL1 hL2 hM h1 h2 he
                go_wp2_with fail
                go_quiet (fail)
                go_wp2_with fail
                go_region
                go_wp2
                go_roundw
                case rel => exact ⟨k, rfl, by omega, HP.out _⟩
                case measure => simp [intOf] <;> omega
theorem rchk_any (s : ByteArray) (w : World) :
    Calls Try.prog 80 #[.int .i64 16, .string s] w fun e w' => e = .returned (.int .i64 (if s.size ≤ 256 then chk 16 s.data.toList else 4)) ∧ w = w' := by
  by_cases h : s.size ≤ 256
  · rw [if_pos h]
    have h6 : ¬ (256 : Int) < (s.size : Int) := by omega
    obtain ⟨z, hz⟩ : ∃ z, z = chk 16 s.data.toList := ⟨_, rfl⟩
    rw [← hz]
    have HZ := hide hz
    clear hz
    go_enter Try.func80, Try.ntmps80
    go_wp2_with (go_at_call 36; refine (rcheck_any _ _ _).mono ?_; rintro e w' ⟨rfl, rfl⟩; rw [← HZ.out])
    go_ret
    exact ⟨rfl, rfl⟩
  · rw [if_neg h]
    have h6 : (256 : Int) < (s.size : Int) := by omega
    go_enter Try.func80, Try.ntmps80
    go_wp2_with fail
    go_ret
    exact ⟨rfl, rfl⟩
set_option maxHeartbeats 1000000 in
theorem rtwo_any (u v : ByteArray) (w : World) :
    Calls Try.prog 68 #[.string u, .string v] w fun e w' => e = .returned (.int .i64 (ckl [u, v])) ∧ w = w' := by
  by_cases hu : u.size ≤ 256
  · by_cases hv : v.size ≤ 256
    · have hk : ckl [u, v] = if chk 16 u.data.toList = 0 then chk 16 v.data.toList else chk 16 u.data.toList := by
        unfold ckl
        rw [if_pos (by simp [hu, hv])]
        simp only [ckf]
        split
        · split
          · rename_i h; exact h.symm
          · rfl
        · rfl
      have hd1 : decide (256 < (u.size : Int)) = false := decide_eq_false (by omega)
      have hd2 : decide (256 < (v.size : Int)) = false := decide_eq_false (by omega)
      have C1 := fun W => rchk_any u W
      have C2 := fun W => rchk_any v W
      rw [if_pos hu] at C1
      rw [if_pos hv] at C2
      obtain ⟨z, hz⟩ : ∃ z, z = chk 16 u.data.toList := ⟨_, rfl⟩
      obtain ⟨y, hy⟩ : ∃ y, y = chk 16 v.data.toList := ⟨_, rfl⟩
      rw [← hz] at C1 hk
      rw [← hy] at C2 hk
      have H1 := hide C1
      have H2 := hide C2
      clear C1 C2 hz hy hu hv
      by_cases h0 : z = 0
      · rw [if_pos h0] at hk
        subst h0
        rw [hk]
        go_enter Try.func68, Try.ntmps68
        go_wp2_with fail
        refine (H1.out _).mono ?_
        rintro e w1 ⟨rfl, rfl⟩
        go_wp2_with fail
        refine (H2.out _).mono ?_
        rintro e w1 ⟨rfl, rfl⟩
        go_wp2
        go_ret
        exact ⟨rfl, rfl⟩
      · rw [if_neg h0] at hk
        have hne : (z != 0) = true := by simpa using h0
        rw [hk]
        clear h0
        go_enter Try.func68, Try.ntmps68
        go_wp2_with fail
        refine (H1.out _).mono ?_
        rintro e w1 ⟨rfl, rfl⟩
        go_wp2
        go_ret
        exact ⟨rfl, rfl⟩
    · have hk : ckl [u, v] = 4 := by unfold ckl; rw [if_neg (by simp; omega)]
      have hd1 : decide (256 < (u.size : Int)) = false := decide_eq_false (by omega)
      have hd2 : decide (256 < (v.size : Int)) = true := decide_eq_true (by omega)
      rw [hk]
      clear hu hv
      go_enter Try.func68, Try.ntmps68
      go_wp2_with fail
      go_ret
      exact ⟨rfl, rfl⟩
  · have hk : ckl [u, v] = 4 := by unfold ckl; rw [if_neg (by simp; omega)]
    have hd1 : decide (256 < (u.size : Int)) = true := decide_eq_true (by omega)
    rw [hk]
    clear hu
    go_enter Try.func68, Try.ntmps68
    go_wp2_with fail
    go_ret
    exact ⟨rfl, rfl⟩
end Go.Proofs.Ytmajalpmbppkpaa
