/- Contracts of tenengolts.Decode and grooveref48.Decode: any number and any string. -/
import Derived.Test.YtijeogengbphdaaREnc
import Derived.Test.YtijeogengbphdaaTCor
import Derived.Test.YtijeogengbphdaaVT
import Derived.Maps.AppendAt
set_option linter.unusedVariables false
namespace Go.Proofs.Ytijeogengbphdaa
open Go.RowKit
/-- the data letters of the first k letters -/
def decK (u : List UInt8) : Nat → List UInt8
  | 0 => []
  | k + 1 => decK u k ++ if isPow (k + 1) then [] else [u.getD k 0]
def dec (n : Int) (s : ByteArray) : List UInt8 × Int :=
  if (corr n 0 s).2 ≠ 0 then ([], (corr n 0 s).2) else (decK (corr n 0 s).1.data.toList (corr n 0 s).1.size, 0)
theorem decK_len (u : List UInt8) : ∀ k, (decK u k).length ≤ k
  | 0 => Nat.le_refl _
  | k + 1 => by unfold decK; have := decK_len u k; split <;> simp <;> omega
theorem pick_cases (a : Int) (L : List ByteArray) : pick a L = (⟨#[]⟩, 22) ∨ ∃ u ∈ L, pick a L = (u, 0) ∧ ((synd u.data.toList : Nat) : Int) = a := by
  unfold pick
  cases hf : L.find? (fun u => ((synd u.data.toList : Nat) : Int) == a) with
  | none => exact .inl rfl
  | some u => exact .inr ⟨u, List.mem_of_find?_eq_some hf, rfl, by simpa using List.find?_some hf⟩
theorem corr_cases (n a : Int) (s : ByteArray) : ((corr n a s).1 = ⟨#[]⟩ ∧ (corr n a s).2 ≠ 0) ∨
    (tck n a = 0 ∧ chk 2 s.data.toList = 0 ∧ ¬ ((s.size : Int) < n - 1 ∨ n + 1 < (s.size : Int)) ∧ ∃ u ∈ cands n s, corr n a s = (u, 0) ∧ ((synd u.data.toList : Nat) : Int) = a) := by
  unfold corr
  by_cases ht : tck n a = 0
  · by_cases hc : chk 2 s.data.toList = 0
    · by_cases hl : (s.size : Int) < n - 1 ∨ n + 1 < (s.size : Int)
      · rw [if_neg (by simp [ht]), if_neg (by simp [hc]), if_pos hl]; exact .inl ⟨rfl, by simp⟩
      · rw [if_neg (by simp [ht]), if_neg (by simp [hc]), if_neg hl]
        rcases pick_cases a (cands n s) with h | ⟨u, hu, h1, h2⟩
        · rw [h]; exact .inl ⟨rfl, by simp⟩
        · exact .inr ⟨ht, hc, hl, u, hu, h1, h2⟩
    · rw [if_neg (by simp [ht]), if_pos hc]; exact .inl ⟨rfl, hc⟩
  · rw [if_pos ht]; exact .inl ⟨rfl, by simp⟩
theorem corr_err (n a : Int) (s : ByteArray) (h : (corr n a s).2 ≠ 0) : (corr n a s).1 = ⟨#[]⟩ := by
  rcases corr_cases n a s with h1 | ⟨_, _, _, u, _, h1, _⟩
  · exact h1.1
  · rw [h1] at h; simp at h
theorem size_cands {n : Int} {s u : ByteArray} (hl : ¬ ((s.size : Int) < n - 1 ∨ n + 1 < (s.size : Int))) (hu : u ∈ cands n s) : (u.size : Int) = n := by
  unfold cands at hu
  split at hu
  · have : u = s := by simpa using hu
    rw [this]; assumption
  · split at hu
    · unfold candDel at hu
      obtain ⟨j, hj, rfl⟩ := List.mem_map.1 hu
      have hj' : j < s.size := by simpa using hj
      rw [size_delB_eq s j hj']; omega
    · unfold candIns at hu
      obtain ⟨j, hj, hu⟩ := List.mem_flatMap.1 hu
      have hj' : j ≤ s.size := by have := List.mem_range.1 hj; omega
      simp only [List.mem_cons, List.not_mem_nil, or_false] at hu
      rcases hu with rfl | rfl <;> · rw [size_insB_eq s j _ hj']; omega
theorem corr_size (n a : Int) (s : ByteArray) : (corr n a s).1.size ≤ 70000 := by
  rcases corr_cases n a s with h1 | ⟨ht, _, hl, u, hu, h1, _⟩
  · rw [h1.1]; show 0 ≤ 70000; omega
  · rw [h1]; have := size_cands hl hu; have := tck_bounds ht; show u.size ≤ 70000; omega
/-- a row of bytes of the call's own -/
def Bys (w : World) (B : Nat) (v : Value) (l : List UInt8) : Prop := w.ownsRow B 5 1 v l.length (l.map byt)
theorem Bys.nil_ (w : World) (B : Nat) : Bys w B (.slice none 0 0) [] := World.ownsRow_nil _ _ _ _
theorem wpList_app_byte {w : World} {ops : Array Oper} {rest : List Oper} {o : Oper} {a : Act} {Q : Exit → Act → World → Prop} (hgd : o.guard = none) (s x : Operand)
    (ho : o.op = .call { callee := .builtin .append, args := #[s, x], argTypes := #[65, 65] })
    (B : Nat) (v : Value) (l : List UInt8) (hs : a.eval s = v) (hown : Bys w B v l)
    (g : Nat) (b : UInt8) (hx : a.eval x = .slice (some ⟨g, 0, none⟩) 1 1) (hblk : w.heap[g]? = some (.cells #[.int .u8 (b.toNat : Int)] 5 (0, 0)))
    (hb : l.length + 1 ≤ 4294967296) (hbase : B ≤ w.heap.size)
    (h : ∀ v' w', Bys w' B v' (l ++ [b]) → w.grownBy w' v.ownBlock → wpList Try.prog ops Q rest (a.put o.dst v') w') : wpList Try.prog ops Q (o :: rest) a w := by
  obtain ⟨i0, hi, hz0, hz1, hz2⟩ := info_parts infoByte
  refine wpList_append_own w hgd s x 65 ho B 5 i0 _ 1 1 Try.underlying65 hi hz0 hz1 hz2 rfl (by decide) v l.length (l.map byt) hs hown ⟨g, 0, none⟩ 1 1 [.int .u8 (b.toNat : Int)] hx rfl ?_ ?_ (by unfold maxLen; omega) (by omega) hbase ?_
  · intro j u hj
    have : (⟨g, 0, none⟩ : Addr).add j = ⟨g, j, none⟩ := by unfold Addr.add; split <;> simp_all
    rw [this, cell_of_row w g j _ 5 (0, 0) hblk]
    simpa using hj
  · intro u hu
    simp at hu; subst hu; rfl
  · intro v' w' h1 h2 _
    refine h v' w' ?_ h2
    unfold Bys
    rw [List.length_append, List.map_append]
    exact h1
/-- string(b) of such a row -/
theorem run_back_own {w : World} {B : Nat} {v : Value} {l : List UInt8} (h : Bys w B v l) : (convert 65 9 v).run Try.prog w = .ok (.string ⟨l.toArray⟩) w := by
  rcases h.2 with ⟨rfl, hn⟩ | ⟨g, cap, cur, rfl, hb, hh, hnc, hcm, hcs, htk⟩
  · have : l = [] := List.eq_nil_of_length_eq_zero hn
    subst this
    show _ = _
    kernel_rfl
  · refine run_convert_bytes_back w 65 9 5 ⟨g, 0, none⟩ cap l Try.underlying65 Try.underlying5 Try.underlying9 fun j hj => ?_
    have : (⟨g, 0, none⟩ : Addr).add j = ⟨g, j, none⟩ := by unfold Addr.add; split <;> simp_all
    rw [this, World.ownsRow.cellAt h j (by omega)]
    simp [hj, byt]
set_option maxRecDepth 100000 in
set_option maxHeartbeats 1000000 in
theorem tdec_any (n : Int) (s : ByteArray) (w : World) :
    Calls Try.prog 20 #[.int .i64 n, .string s] w fun e w' => e = .returned (.tuple #[.string ⟨(dec n s).1.toArray⟩, .int .i64 (dec n s).2]) ∧ Below w.heap.size w w' := by
  by_cases h : (corr n 0 s).2 = 0
  · have HR := hide (show dec n s = (decK (corr n 0 s).1.data.toList (corr n 0 s).1.size, 0) by unfold dec; rw [if_neg (by simp [h])])
    have T1 := fun W => tcor_any n 0 s W
    rw [h] at T1
    have hz : (corr n 0 s).1.size ≤ 70000 := corr_size n 0 s
    obtain ⟨u, hu⟩ : ∃ u, u = (corr n 0 s).1 := ⟨_, rfl⟩
    rw [← hu] at T1 HR hz
    have H1 := hide T1
    clear T1 h hu
    go_enter Try.func20, Try.ntmps20
    go_wp2_with (go_at_call 12; refine (H1.out _).mono ?_; rintro e w1 ⟨rfl, hB⟩)
    have hBs := hB.size
    go_loopw [8, 21] (fun v i wr => ∃ k : Nat, k ≤ u.size ∧ i = .int .i64 k ∧ Bys wr w.heap.size v (decK u.data.toList k) ∧ Below w.heap.size w wr) (fun _ i _ => u.size - (intOf i).toNat)
    case atStart => exact ⟨0, Nat.zero_le _, rfl, Bys.nil_ _ _, hB⟩
    case round =>
      obtain ⟨k, hk, rfl, hv, hBr⟩ := hrel
      clear hB hBs
      have hdl := decK_len u.data.toList k
      by_cases hlt : k < u.size
      · have e1 : ((k + 1 : Nat) : Int) = (k : Int) + 1 := by omega
        have hBs := hBr.size
        cases hp : isPow (k + 1)
        · have hf := fun w => free_val (k + 1) (by omega) (by omega) true (by rw [hp]; rfl) w
          rw [e1] at hf
          have HF := hide hf
          have HS := hide (show decK u.data.toList (k + 1) = decK u.data.toList k ++ [u[k]] by
            show decK u.data.toList k ++ _ = _
            rw [hp]
            have : k < u.data.toList.length := by simpa using hlt
            simp [List.getD, List.getElem?_eq_getElem this]; rfl)
          have HDL := hide hdl
          clear hf hp e1 hdl
          go_wp2_with (first
            | (go_at_call 48; refine (HF.out _).mono ?_; rintro e w' ⟨rfl, rfl⟩)
            | (at_builtin; refine wpList_app_byte rfl (.tmp 27) (.tmp 31) rfl w.heap.size _ _ rfl (World.ownsRow.alloc hv _) wr.heap.size u[k] rfl (heap_alloc_new wr _) (by have := HDL.out; omega) (by simp; omega) ?_; intro v1 w2 hv1 hg1))
          have hB2 := (hBr.alloc hBs (.cells #[.int .u8 (u[k].toNat : Int)] 5)).grown hg1 (by simp; omega) (fun _ hk => (World.ownsRow.lt hv _ hk).1)
          go_roundw
          case rel => exact ⟨k + 1, by omega, by go_num, by rw [HS.out]; exact hv1, hB2⟩
          case measure => simp [intOf]; omega
        · have hf := fun w => free_val (k + 1) (by omega) (by omega) false (by rw [hp]; rfl) w
          rw [e1] at hf
          have HF := hide hf
          have HS := hide (show decK u.data.toList (k + 1) = decK u.data.toList k by
            show decK u.data.toList k ++ _ = _
            rw [hp]; simp)
          clear hf hp e1
          go_wp2_with (go_at_call 48; refine (HF.out _).mono ?_; rintro e w' ⟨rfl, rfl⟩)
          go_roundw
          case rel => exact ⟨k + 1, by omega, by go_num, by rw [HS.out]; exact hv, hBr⟩
          case measure => simp [intOf]; omega
      · obtain rfl : k = u.size := by omega
        have hback := run_back_own hv
        go_wp2
        go_ret2
        exact ⟨by rw [HR.out]; rfl, hBr⟩
  · have HR := hide (show dec n s = ([], (corr n 0 s).2) by unfold dec; rw [if_pos h])
    have T1 := fun W => tcor_any n 0 s W
    have hu := corr_err n 0 s h
    rw [hu] at T1
    obtain ⟨c, hc⟩ : ∃ c, c = (corr n 0 s).2 := ⟨_, rfl⟩
    rw [← hc] at T1 HR h
    have hcb : (c != 0) = true := by simpa using h
    have H1 := hide T1
    clear T1 hc hu h
    go_enter Try.func20, Try.ntmps20
    go_wp2_with (go_at_call 12; refine (H1.out _).mono ?_; rintro e w1 ⟨rfl, hB⟩)
    go_ret2
    exact ⟨by rw [HR.out]; rfl, hB⟩
end Go.Proofs.Ytijeogengbphdaa
