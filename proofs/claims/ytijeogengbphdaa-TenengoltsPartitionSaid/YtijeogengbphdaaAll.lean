/- Contracts of word.All for two letters (up to 12 letters a word), tenengolts.Words, slices.Equal of lists of strings. -/
import Derived.Test.YtijeogengbphdaaTen
import Derived.Test.YtijeogengbphdaaStrs
import Derived.Maps.AppendAt
set_option linter.unusedVariables false
namespace Go.Proofs.Ytijeogengbphdaa
open Go.RowKit

/-! ### plain -/
def put (w : ByteArray) (i : Nat) : ByteArray := w ++ (⟨#[48, 49, 50, 51, 52, 53, 54, 55, 56, 57, 97, 98, 99, 100, 101, 102]⟩ : ByteArray).extract i (i + 1)
theorem flat2_len {α β : Type} (f g : α → β) : ∀ l : List α, (l.flatMap fun w => [f w, g w]).length = 2 * l.length
  | [] => rfl
  | a :: l => by rw [List.flatMap_cons, List.length_append, flat2_len f g l]; simp; omega
/-- all binary words of n letters, in order -/
def allB : Nat → List ByteArray
  | 0 => [⟨#[]⟩]
  | n + 1 => (allB n).flatMap fun w => [put w 0, put w 1]
/-- what has been gathered after k words, and i letters of the next one -/
def stepB (l : List ByteArray) (k : Nat) : List ByteArray := (l.take k).flatMap fun w => [put w 0, put w 1]
theorem len_allB : ∀ n, (allB n).length = 2 ^ n
  | 0 => rfl
  | n + 1 => by
    unfold allB
    rw [flat2_len, len_allB n, Nat.pow_succ]; omega
theorem len_stepB (l : List ByteArray) (k : Nat) (hk : k ≤ l.length) : (stepB l k).length = 2 * k := by
  unfold stepB; rw [flat2_len, List.length_take, Nat.min_eq_left hk]
theorem stepB_succ (l : List ByteArray) (k : Nat) (hk : k < l.length) : stepB l (k + 1) = stepB l k ++ [put l[k] 0, put l[k] 1] := by
  unfold stepB
  rw [List.take_succ_eq_append_getElem hk, List.flatMap_append]; simp
theorem stepB_all (l : List ByteArray) : stepB l l.length = l.flatMap fun w => [put w 0, put w 1] := by unfold stepB; rw [List.take_length]
theorem size_allB : ∀ n, ∀ u ∈ allB n, u.size = n
  | 0 => by intro u hu; simp [allB] at hu; subst hu; rfl
  | n + 1 => by
    intro u hu
    unfold allB at hu
    obtain ⟨v, hv, hu⟩ := List.mem_flatMap.1 hu
    have := size_allB n v hv
    simp only [List.mem_cons, List.not_mem_nil, or_false] at hu
    rcases hu with rfl | rfl <;> · unfold put; rw [ByteArray.size_append, this]; rfl
theorem tck_bounds' {n a : Int} (h : tck n a = 0) : 0 ≤ n ∧ n ≤ 64 ∧ 0 ≤ a ∧ a ≤ n := by unfold tck at h; split at h <;> omega
theorem pow_bound {n : Nat} (h : n ≤ 12) : 2 ^ n ≤ 4096 := Nat.le_trans (Nat.pow_le_pow_right (by omega) h) (by decide)

theorem made_strs (z : Value) (hz : z.cells = #[z]) (n : Nat) : madeCells z.cells n = (List.replicate n z).toArray := by
  unfold madeCells
  rw [hz]
  apply Array.ext
  · simp
  · intro i h1 h2
    simp [Nat.mod_one]
theorem run_make_strs (c : Nat) (hc : c ≤ 70000) (w : World) :
    (Instr.makeSlice 35 (.int .i64 0) (.int .i64 (c : Int))).run Try.prog w = .ok (.slice (some ⟨w.heap.size, 0, none⟩) 0 c) (w.alloc (.cells (List.replicate c (Value.string ⟨#[]⟩)).toArray 9)) := by
  obtain ⟨i0, hi, hz0, hz1, hz2⟩ := info_parts infoStr
  have h := run_make (P := Try.prog) w 35 9 i0 _ Try.underlying35 hi hz0 .i64 .i64 0 c (by omega) (by omega) (by rw [hz2]; omega) (by omega)
  simp only [Int.toNat_natCast, Int.toNat_zero, hz1, Nat.mul_one] at h
  rw [h, made_strs _ rfl]
theorem Strs.made {w : World} {B c : Nat} (hB : B ≤ w.heap.size) (hc : c ≤ 70000) (cs : Array Value) (hcs : cs = (List.replicate c (Value.string ⟨#[]⟩)).toArray) :
    Strs (w.alloc (.cells cs 9)) B (.slice (some ⟨w.heap.size, 0, none⟩) 0 c) [] := by
  subst hcs
  exact World.ownsRow_made (base := B) (e := 9) (size := 1) w _ c hB (by unfold maxLen; omega) (by simp)

theorem wpList_app_at {w : World} {ops : Array Oper} {rest : List Oper} {o : Oper} {a : Act} {Q : Exit → Act → World → Prop} (hgd : o.guard = none) (s x : Operand)
    (ho : o.op = .call { callee := .builtin .append, args := #[s, x], argTypes := #[35, 35] })
    (B : Nat) (v : Value) (xs : List ByteArray) (hs : a.eval s = v) (hown : Strs w B v xs)
    (g m : Nat) (news : List ByteArray) (hx : a.eval x = .slice (some ⟨g, 0, none⟩) m m) (hl : news.length = m) (hblk : w.heap[g]? = some (.cells (news.map Value.string).toArray 9 (0, 0)))
    (hb : xs.length + m ≤ 4294967296) (hbase : B ≤ w.heap.size)
    (h : ∀ v' w', Strs w' B v' (xs ++ news) → w.grownBy w' v.ownBlock → (v'.ownBlock = v.ownBlock ∨ v'.ownBlock = some w.heap.size) → wpList Try.prog ops Q rest (a.put o.dst v') w') : wpList Try.prog ops Q (o :: rest) a w := by
  obtain ⟨i0, hi, hz0, hz1, hz2⟩ := info_parts infoStr
  refine wpList_append_own_at w hgd s x 35 ho B 9 i0 _ 1 16 Try.underlying35 hi hz0 hz1 hz2 rfl (by decide) v xs.length (xs.map Value.string) hs hown ⟨g, 0, none⟩ m m (news.map Value.string) hx (by simp [hl]) ?_ ?_ (by unfold maxLen; omega) (by omega) hbase ?_
  · intro j u hj
    have : (⟨g, 0, none⟩ : Addr).add j = ⟨g, j, none⟩ := by unfold Addr.add; split <;> simp_all
    rw [this, cell_of_row w g j _ 9 (0, 0) hblk]
    simpa using hj
  · intro u hu
    obtain ⟨b, _, rfl⟩ := List.mem_map.1 hu
    rfl
  · intro v' w' h1 h2 _ h4
    refine h v' w' ?_ h2 h4
    unfold Strs
    rw [List.length_append, hl, List.map_append]
    exact h1
theorem Strs.kept {w w' : World} {B : Nat} {v : Value} {xs : List ByteArray} {row : Option Nat} (h : Strs w B v xs) (hg : w.grownBy w' row) (hne : v.ownBlock = none ∨ v.ownBlock ≠ row) : Strs w' B v xs := World.ownsRow.kept h hg hne

set_option maxRecDepth 100000 in
set_option maxHeartbeats 1000000 in
theorem wall_any (n : Nat) (hn : n ≤ 12) (w : World) :
    Calls Try.prog 50 #[.int .i64 2, .int .i64 (n : Int)] w fun e w' => ∃ v, e = .returned (.tuple #[v, .int .i64 0]) ∧ Strs w' w.heap.size v (allB n) ∧ Below w.heap.size w w' := by
  go_enter Try.func50, Try.ntmps50
  go_wp2_with (go_at_call 70; refine (kn_t _ (by omega) _).mono ?_; rintro e w' ⟨rfl, rfl⟩)
  go_loopw [6, 28] (fun v i wr => ∃ k : Nat, k ≤ n ∧ i = .int .i64 k ∧ Strs wr w.heap.size v (allB k) ∧ Below w.heap.size w wr) (fun _ i _ => n - (intOf i).toNat)
  case atStart => exact ⟨0, Nat.zero_le _, rfl, Strs.one_ rfl (Nat.le_refl _) _, (Below.refl _ _).alloc (Nat.le_refl _) _⟩
  case round =>
    obtain ⟨k, hk, rfl, hown, hB⟩ := hrel
    by_cases hlt : k < n
    · have hl := len_allB k
      have hp := pow_bound (show k + 1 ≤ 12 by omega)
      rw [Nat.pow_succ] at hp
      have HD := hide (show allB (k + 1) = (allB k).flatMap fun w => [put w 0, put w 1] from rfl)
      have HZ := hide (size_allB k)
      obtain ⟨L, hL⟩ : ∃ L, L = allB k := ⟨_, rfl⟩
      rw [← hL] at hown hl HD HZ
      rw [← hl] at hp
      have hLp : 0 < L.length := by rw [hl]; exact Nat.pos_of_ne_zero (by simp)
      clear hL hl
      obtain ⟨g, cap, hv, hg1, hg2⟩ := hown.form hLp
      subst hv
      have hBs := hB.size
      have hmk := fun W => run_make_strs (L.length * 2) (by omega) W
      rw [show ((L.length * 2 : Nat) : Int) = (L.length : Int) * 2 by omega] at hmk
      go_wp2_with fail
      have hown1 := hown.alloc (Obj.cells (Array.replicate (L.length * 2) (Value.string { data := #[] })) 9)
      have hB1 := hB.alloc hBs (Obj.cells (Array.replicate (L.length * 2) (Value.string { data := #[] })) 9)
      have hnew : Strs (wr.alloc (Obj.cells (Array.replicate (L.length * 2) (Value.string { data := #[] })) 9)) w.heap.size (.slice (some ⟨wr.heap.size, 0, none⟩) 0 (L.length * 2)) (stepB L 0) := Strs.made hBs (by omega) _ (by simp)
      have hsz1 : wr.heap.size < (wr.alloc (Obj.cells (Array.replicate (L.length * 2) (Value.string { data := #[] })) 9)).heap.size := by simp
      have hgn : g ≠ wr.heap.size := by omega
      clear hown hB hmk
      generalize wr.alloc (Obj.cells (Array.replicate (L.length * 2) (Value.string { data := #[] })) 9) = W1 at hown1 hB1 hnew hsz1 ⊢
      obtain ⟨wo, rfl⟩ : ∃ wo : World, wo = wr := ⟨_, rfl⟩
      go_loopw [7, 42] (fun v i wv => ∃ j : Nat, j ≤ L.length ∧ i = .int .i64 j ∧ Strs wv w.heap.size v (stepB L j) ∧ Strs wv w.heap.size (.slice (some ⟨g, 0, none⟩) L.length cap) L ∧ v.ownBlock ≠ some g ∧ Below w.heap.size w wv) (fun _ i _ => L.length - (intOf i).toNat)
      case atStart => exact ⟨0, Nat.zero_le _, rfl, hnew, hown1, by simp [Value.ownBlock]; omega, hB1⟩
      case round =>
        obtain ⟨j, hj, rfl, hv, hrow, hne, hBv⟩ := hrel
        clear hnew hown1 hB1 hsz1
        by_cases hjt : j < L.length
        · have hcell := hrow.cell hjt
          have HS := hide (stepB_succ L j hjt)
          have HLS := hide (len_stepB L j hj)
          have hz := HZ.out L[j] (List.getElem_mem hjt)
          obtain ⟨u, hu⟩ : ∃ u, u = L[j] := ⟨_, rfl⟩
          rw [← hu] at hcell HS hz
          have HU := hide hu
          clear hu
          have hu1 : u.size ≤ 12 := by omega
          have hgl : g < wr.heap.size := World.block_lt_of_cell? wr _ hcell
          have hBvs := hBv.size
          clear hz
          go_wp2_with fail
          refine wp_loop_rounds 3 ?_
          rw [rounds_succ]
          go_wp2_with (at_builtin; refine wpList_app_at rfl (.tmp 50) (.tmp 57) rfl w.heap.size _ _ rfl (hv.alloc _) wr.heap.size 1 [put u 0] rfl rfl (heap_alloc_new wr _) (by rw [HLS.out]; omega) (by simp; omega) ?_; intro v1 w1 hv1 hg1 ha1)
          have hgl1 : g < w1.heap.size := Nat.lt_of_lt_of_le (by simp; omega) hg1.size
          have hne1 : v1.ownBlock ≠ some g := by rcases ha1 with h | h <;> rw [h] <;> first | exact hne | (simp; omega)
          have hrow1 := (hrow.alloc _).kept hg1 (.inr (by simp only [Value.ownBlock]; exact Ne.symm hne))
          have hB1 := below_app (hBv.alloc hBvs _) (hv.alloc _) hg1
          have hBs1 := hB1.size
          have hlen1 : (stepB L j ++ [put u 0]).length ≤ 4097 := by rw [List.length_append, HLS.out]; simp; omega
          clear hv hg1 ha1 hrow hBv hBvs hne hgl
          rw [rounds_succ]
          go_wp2_with (at_builtin; refine wpList_app_at rfl (.tmp 50) (.tmp 57) rfl w.heap.size _ _ rfl (hv1.alloc _) w1.heap.size 1 [put u 1] rfl rfl (heap_alloc_new w1 _) (by omega) (by simp; omega) ?_; intro v2 w2 hv2 hg2 ha2)
          have hne2 : v2.ownBlock ≠ some g := by rcases ha2 with h | h <;> rw [h] <;> first | exact hne1 | (simp; omega)
          have hrow2 := (hrow1.alloc _).kept hg2 (.inr (by simp only [Value.ownBlock]; exact Ne.symm hne1))
          have hB2 := below_app (hB1.alloc hBs1 _) (hv1.alloc _) hg2
          clear hv1 hg2 ha2 hrow1 hB1 hBs1 hne1 hgl1 hlen1
          rw [rounds_succ]
          go_wp2
          go_roundw
          case rel => exact ⟨j + 1, by omega, by go_num, by rw [HS.out]; simpa using hv2, hrow2, hne2, hB2⟩
          case measure => simp [intOf]; omega
        · obtain rfl : j = L.length := by omega
          rw [stepB_all, ← HD.out] at hv
          go_wp2
          go_roundw
          case rel => exact ⟨k + 1, by omega, by go_num, hv, hBv⟩
          case measure => simp [intOf]; omega
    · obtain rfl : k = n := by omega
      go_wp2
      go_ret2
      exact ⟨_, rfl, hown, hB⟩

/-- the words of a code -/
def wordsL (n : Nat) (a : Int) (k : Nat) : List ByteArray := ((allB n).take k).filter fun u => ((synd u.data.toList : Nat) : Int) == a
def words (n a : Int) : List ByteArray × Int :=
  if tck n a ≠ 0 then ([], 2) else if 12 < n then ([], 4) else ((allB n.toNat).filter (fun u => ((synd u.data.toList : Nat) : Int) == a), 0)
theorem wordsL_succ (n : Nat) (a : Int) (k : Nat) (hk : k < (allB n).length) : wordsL n a (k + 1) = wordsL n a k ++ if ((synd (allB n)[k].data.toList : Nat) : Int) == a then [(allB n)[k]] else [] := by
  unfold wordsL
  rw [List.take_succ_eq_append_getElem hk, List.filter_append, List.filter_cons]
  split <;> simp_all
theorem wordsL_len (n : Nat) (a : Int) (k : Nat) : (wordsL n a k).length ≤ k := by
  unfold wordsL; exact Nat.le_trans (List.length_filter_le _ _) (List.length_take_le _ _)

set_option maxRecDepth 100000 in
set_option maxHeartbeats 1000000 in
theorem twords_any (n a : Int) (w : World) :
    Calls Try.prog 25 #[.int .i64 n, .int .i64 a] w fun e w' => ∃ v, e = .returned (.tuple #[v, .int .i64 (words n a).2]) ∧ Strs w' w.heap.size v (words n a).1 ∧ Below w.heap.size w w' := by
  by_cases ht : tck n a = 0
  · have hb := tck_bounds' ht
    have HT := hide ht
    obtain ⟨m, rfl⟩ := Int.eq_ofNat_of_zero_le hb.1
    by_cases hm : 12 < (m : Int)
    · have HR := hide (show words (m : Int) a = ([], 4) by unfold words; rw [if_neg (by simp [ht]), if_pos hm])
      clear ht
      go_enter Try.func25, Try.ntmps25
      go_wp2_with (go_at_call 39; refine (tchk_any _ _ _).mono ?_; rintro e w' ⟨rfl, rfl⟩; rw [HT.out])
      go_ret2
      rw [HR.out]
      exact ⟨_, rfl, Strs.nil_ _ _, Below.refl _ _⟩
    · have hm12 : m ≤ 12 := by omega
      have HR := hide (show words (m : Int) a = (wordsL m a (allB m).length, 0) by
        unfold words wordsL; rw [if_neg (by simp [ht]), if_neg hm, List.take_length]; rfl)
      have hp := pow_bound hm12
      rw [← len_allB] at hp
      have hpos : 0 < (allB m).length := by rw [len_allB]; exact Nat.pos_of_ne_zero (by simp)
      have HZ := hide (size_allB m)
      clear ht hm
      go_enter Try.func25, Try.ntmps25
      go_wp2_with (first
        | (go_at_call 39; refine (tchk_any _ _ _).mono ?_; rintro e w' ⟨rfl, rfl⟩; rw [HT.out])
        | (go_at_call 50; refine (wall_any m hm12 _).mono ?_; rintro e w1 ⟨v, he, hrow, hB⟩; obtain ⟨g, cap, hv, hg1, hg2⟩ := hrow.form hpos; subst hv; subst he))
      obtain ⟨L, hL⟩ : ∃ L, L = allB m := ⟨_, rfl⟩
      rw [← hL] at HR hp hpos HZ hrow ⊢
      have HLL := hide hL
      clear hL
      have hBs := hB.size
      go_loopw [9, 30] (fun v i wv => ∃ j : Nat, j ≤ L.length ∧ i = .int .i64 j ∧ Strs wv w.heap.size v (wordsL m a j) ∧ Strs wv w.heap.size (.slice (some ⟨g, 0, none⟩) L.length cap) L ∧ v.ownBlock ≠ some g ∧ Below w.heap.size w wv) (fun _ i _ => L.length - (intOf i).toNat)
      case atStart => exact ⟨0, Nat.zero_le _, rfl, Strs.nil_ _ _, hrow, by simp [Value.ownBlock], hB⟩
      case round =>
        obtain ⟨j, hj, rfl, hv, hr, hne, hBv⟩ := hrel
        clear hrow hB hBs
        by_cases hjt : j < L.length
        · have hcell := hr.cell hjt
          have HS := hide (by have := wordsL_succ m a j (by rw [← HLL.out]; exact hjt); simp only [← HLL.out] at this; exact this : wordsL m a (j + 1) = wordsL m a j ++ if ((synd L[j].data.toList : Nat) : Int) == a then [L[j]] else [])
          have hll := wordsL_len m a j
          have hz : L[j].size ≤ 70000 := by have := HZ.out L[j] (List.getElem_mem hjt); omega
          obtain ⟨u, hu⟩ : ∃ u, u = L[j] := ⟨_, rfl⟩
          rw [← hu] at hcell HS hz
          clear hu
          have hgl : g < wr.heap.size := World.block_lt_of_cell? wr _ hcell
          have hBvs := hBv.size
          by_cases hy : ((synd u.data.toList : Nat) : Int) = a
          · have hyb : (((synd u.data.toList : Nat) : Int) == a) = true := by simpa using hy
            have HS2 := hide (by have := HS.out; rw [hyb] at this; simpa using this : wordsL m a (j + 1) = wordsL m a j ++ [u])
            clear hy HS
            have HLN := hide hll
            clear hll
            go_wp2_with (first
              | (go_at_call 42; refine (tsynd_any u _ hz).mono ?_; rintro e w' ⟨rfl, rfl⟩)
              | (at_builtin; refine wpList_app_at rfl (.tmp 38) (.tmp 40) rfl w.heap.size _ _ rfl (hv.alloc _) wr.heap.size 1 [u] rfl rfl (heap_alloc_new wr _) (by have := HLN.out; omega) (by simp; omega) ?_; intro v1 w1 hv1 hg1 ha1))
            have hne1 : v1.ownBlock ≠ some g := by rcases ha1 with h | h <;> rw [h] <;> first | exact hne | (simp; omega)
            have hr1 := (hr.alloc _).kept hg1 (.inr (by simp only [Value.ownBlock]; exact Ne.symm hne))
            have hB1 := below_app (hBv.alloc hBvs _) (hv.alloc _) hg1
            clear hv hg1 ha1 hr hBv hBvs hne hgl
            go_roundw
            case rel => exact ⟨j + 1, by omega, by go_num, by rw [HS2.out]; exact hv1, hr1, hne1, hB1⟩
            case measure => simp [intOf]; omega
          · have hyb : (((synd u.data.toList : Nat) : Int) == a) = false := by simpa using hy
            have HS2 := hide (by have := HS.out; rw [hyb] at this; simpa using this : wordsL m a (j + 1) = wordsL m a j)
            clear hy HS
            go_wp2_with (go_at_call 42; refine (tsynd_any u _ hz).mono ?_; rintro e w' ⟨rfl, rfl⟩)
            go_roundw
            case rel => exact ⟨j + 1, by omega, by go_num, by rw [HS2.out]; exact hv, hr, hne, hBv⟩
            case measure => simp [intOf]; omega
        · obtain rfl : j = L.length := by omega
          go_wp2
          go_ret2
          rw [HR.out]
          exact ⟨_, rfl, hv, hBv⟩
  · have HR := hide (show words n a = ([], 2) by unfold words; rw [if_pos ht])
    have HT := hide (show tck n a = 2 by unfold tck at ht ⊢; split at ht <;> simp_all)
    clear ht
    go_enter Try.func25, Try.ntmps25
    go_wp2_with (go_at_call 39; refine (tchk_any _ _ _).mono ?_; rintro e w' ⟨rfl, rfl⟩; rw [HT.out])
    go_ret2
    rw [HR.out]
    exact ⟨_, rfl, Strs.nil_ _ _, Below.refl _ _⟩
end Go.Proofs.Ytijeogengbphdaa
