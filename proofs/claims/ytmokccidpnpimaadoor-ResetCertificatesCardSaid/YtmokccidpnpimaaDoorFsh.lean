/- reset.fresh with the closure of search: its contract. -/
import Derived.Test.YtmokccidpnpimaaDoorSrF
set_option linter.unusedVariables false
namespace Go.Proofs.YtmokccidpnpimaaDoor
open Go.RowKit Go.Maps
/-- for which letters, and with which sets, fresh calls -/
def frK (rows : List (List Int)) (S : Nat) (seen : List Nat) : Nat → List (Nat × Nat)
  | 0 => []
  | c + 1 => if img rows S c ∈ seen ++ (frK rows S seen c).map (·.2) then frK rows S seen c else frK rows S seen c ++ [(c, img rows S c)]
theorem frK_yes {rows : List (List Int)} {S c : Nat} {seen : List Nat} (h : img rows S c ∈ seen ++ (frK rows S seen c).map (·.2)) : frK rows S seen (c + 1) = frK rows S seen c := by
  rw [show frK rows S seen (c + 1) = if img rows S c ∈ seen ++ (frK rows S seen c).map (·.2) then frK rows S seen c else frK rows S seen c ++ [(c, img rows S c)] from rfl, if_pos h]
theorem frK_no {rows : List (List Int)} {S c : Nat} {seen : List Nat} (h : img rows S c ∉ seen ++ (frK rows S seen c).map (·.2)) : frK rows S seen (c + 1) = frK rows S seen c ++ [(c, img rows S c)] := by
  rw [show frK rows S seen (c + 1) = if img rows S c ∈ seen ++ (frK rows S seen c).map (·.2) then frK rows S seen c else frK rows S seen c ++ [(c, img rows S c)] from rfl, if_neg h]
theorem frK_len {rows : List (List Int)} {S : Nat} {seen : List Nat} : ∀ c, (frK rows S seen c).length ≤ c
  | 0 => Nat.le_refl _
  | c + 1 => by
    have := frK_len (rows := rows) (S := S) (seen := seen) c
    by_cases h : img rows S c ∈ seen ++ (frK rows S seen c).map (·.2)
    · rw [frK_yes h]; omega
    · rw [frK_no h, List.length_append]; simp; omega
/-- what was seen, and what was called with -/
def snd (l : List (Nat × Nat)) : List Nat := l.map (·.2)
/-- the box of an automaton -/
def BoxA (w : World) (N : Nat) (L : Int) (A : Option Addr) (n cc : Nat) : Prop := w.heap[N]? = some (.cells #[.int .i64 L, .slice A n cc] 24 (0, 0))
theorem BoxA.c0 {w : World} {N : Nat} {L : Int} {A : Option Addr} {n cc : Nat} (h : BoxA w N L A n cc) : w.cell? ⟨N, 0, none⟩ = some (.int .i64 L) := by rw [cell_of_row w N 0 _ _ _ h]; rfl
theorem BoxA.c1 {w : World} {N : Nat} {L : Int} {A : Option Addr} {n cc : Nat} (h : BoxA w N L A n cc) : w.cell? ⟨N, 1, none⟩ = some (.slice A n cc) := by rw [cell_of_row w N 1 _ _ _ h]; rfl
theorem BoxA.lt {w : World} {N : Nat} {L : Int} {A : Option Addr} {n cc : Nat} (h : BoxA w N L A n cc) : N < w.heap.size := (Array.getElem?_eq_some_iff.1 h).1
theorem boxA_ne_map {w : World} {N M : Nat} {L : Int} {S : List Nat} {A : Option Addr} {n cc : Nat} (h : BoxA w N L A n cc) (hm : SeenV w M S) : some N ≠ some M := by
  intro e
  cases e
  obtain ⟨es, clock, h0⟩ := hm.obj
  unfold BoxA at h
  rw [h0] at h
  cases h
set_option maxRecDepth 100000 in
set_option maxHeartbeats 4000000 in
theorem zfresh_any (rows : List (List Int)) (L S : Nat) (A : Option Addr) (cc : Nat) (M B Q X : Nat) (seen : List Nat) (I : World → List (Nat × Nat) → Prop) (w : World) (hA : Aut rows L) (hS : S < 2 ^ rows.length)
    (hRT : ∀ W, Below B w W → RowD W A rows ∧ TabZ W) (hBM : B ≤ M) (hB : B ≤ w.heap.size) (hM : SeenV w M seen) (hI : I w []) (hlen : seen.length ≤ 100000)
    (hk1 : ∀ W W' l, I W l → Below W.heap.size W W' → I W' l)
    (hk2 : ∀ W W' l T, SeenV W M T → I W l → W.grownBy W' (some M) → I W' l)
    (hc : ∀ W l k y, I W l → k < L → l.length ≤ k → y < 2 ^ rows.length → Calls Tryd.prog 62 #[.int .i64 (k : Nat), .int .i64 (y : Nat), .pointer (some ⟨Q, 0, none⟩), .pointer (some ⟨X, 0, none⟩)] W fun e W' => e = .returned (.tuple #[]) ∧ I W' (l ++ [(k, y)]) ∧ (∀ T, SeenV W M T → SeenV W' M T) ∧ KeepA W W' ∧ Below B W W') :
    Calls Tryd.prog 38 #[.agg #[.int .i64 L, .slice A rows.length cc], .int .i64 S, .map (some M), .func (.func 62) #[] #[.pointer (some ⟨Q, 0, none⟩), .pointer (some ⟨X, 0, none⟩)]] w fun e w' => e = .returned (.tuple #[]) ∧ I w' (frK rows S seen L) ∧ SeenV w' M (seen ++ snd (frK rows S seen L)) ∧ Below B w w' := by
  have hB0 : Below w.heap.size w (w.alloc (Obj.cells #[.int .i64 L, .slice A rows.length cc] 24)) := (Below.refl _ w).alloc (Nat.le_refl _) _
  obtain ⟨N, hNN⟩ : ∃ N, w.heap.size = N := ⟨_, rfl⟩
  have hbx : BoxA (w.alloc (Obj.cells #[.int .i64 L, .slice A rows.length cc] 24)) N L A rows.length cc := by rw [← hNN]; exact heap_alloc_new w _
  have k0 := hbx.c0
  have k1 := hbx.c1
  have hI1 := hk1 _ _ _ hI hB0
  have hM1 := hM.belowL hB0 (Nat.le_refl _)
  have hB1 : Below B w (w.alloc (Obj.cells #[.int .i64 L, .slice A rows.length cc] 24)) := hB0.mono hB
  have hl3 := hA.l3
  have HA := hide hA
  have HS := hide hS
  have HRT := hide hRT
  have HK1 := hide hk1
  have HK2 := hide hk2
  have HC := hide hc
  clear hA hS hRT hk1 hk2 hc hM hI hB0
  go_enter Tryd.func38, Tryd.ntmps38
  go_wp2
  generalize w.alloc (Obj.cells #[.int .i64 L, .slice A rows.length cc] 24) = W1 at hB1 hbx k0 k1 hI1 hM1 ⊢
  clear k0 k1
  go_loopw [12] (fun iv wr => ∃ k : Nat, iv = .int .i64 k ∧ k ≤ L ∧ BoxA wr N L A rows.length cc ∧ I wr (frK rows S seen k) ∧ SeenV wr M (seen ++ snd (frK rows S seen k)) ∧ Below B w wr) (fun iv _ => L - (intOf iv).toNat)
  case atStart => exact ⟨0, rfl, Nat.zero_le _, hbx, hI1, by simpa [snd, frK] using hM1, hB1⟩
  case round =>
    obtain ⟨k, rfl, hk, hbx, hIk, hMk, hBk⟩ := hrel
    clear hI1 hM1 hB1
    by_cases hkl : k < L
    · have hgY := hide (frK_yes (rows := rows) (S := S) (seen := seen) (c := k))
      have hgN := hide (frK_no (rows := rows) (S := S) (seen := seen) (c := k))
      have hfl := frK_len (rows := rows) (S := S) (seen := seen) k
      have hy64 := HA.out.img_lt hkl S
      have hy2 : img rows S k < 64 := Nat.lt_of_lt_of_le hy64 HA.out.pow
      have HST : Hid (Calls Tryd.prog 57 #[.agg #[.int .i64 L, .slice A rows.length cc], .int .i64 S, .int .i64 k] wr fun e w' => e = .returned (.int .i64 (img rows S k)) ∧ Below wr.heap.size wr w') :=
        hide (zstep_any rows L S k A cc wr HA.out hkl HS.out (HRT.out wr hBk).1 (HRT.out wr hBk).2)
      obtain ⟨y, hy⟩ : ∃ y, img rows S k = y := ⟨_, rfl⟩
      rw [hy] at hgY hgN hy64 hy2 HST
      generalize frK rows S seen k = G at hIk hMk hgY hgN hfl
      have hlk : (seen ++ snd G).length ≤ 1000000 := by simp [snd]; omega
      have k0 := hbx.c0
      have k1 := hbx.c1
      have hBs := hBk.size
      clear hy
      by_cases hm : y ∈ seen ++ snd G
      · have HG := hide (hgY.out hm)
        replace hm := hide hm
        clear hgN hgY
        go_wp2_with (go_at_call 57; refine (HST.out).mono ?_; rintro e w3 ⟨rfl, hB3⟩; have hM3 := hMk.belowL hB3 (Nat.le_refl _); have hlook := hM3.look y (by omega); rw [decide_eq_true hm.out] at hlook)
        go_roundw
        case rel => exact ⟨k + 1, by go_num, hkl, (hB3.block N hbx.lt).trans hbx, by rw [HG.out]; exact HK1.out _ _ _ hIk hB3, by rw [HG.out]; exact hM3, hBk.trans (hB3.mono (by omega))⟩
        case measure => simp [intOf]; omega
      · have HG := hide (hgN.out hm)
        replace hm := hide hm
        clear hgN hgY
        go_wp2_with (first
          | (go_at_call 57; refine (HST.out).mono ?_; rintro e w3 ⟨rfl, hB3⟩; have hM3 := hMk.belowL hB3 (Nat.le_refl _); have hlook := hM3.look y (by omega); rw [decide_eq_false hm.out] at hlook; obtain ⟨w4, hrun, hM4, hg4⟩ := hM3.store hlk y (by omega); have hI4 := HK2.out _ _ _ _ hM3 (HK1.out _ _ _ hIk hB3) hg4)
          | (go_at_call 62; refine (HC.out _ _ k y hI4 hkl hfl hy64).mono ?_; rintro e w5 ⟨rfl, hI5, hM5, hA5, hB5⟩))
        go_roundw
        case rel =>
          have hbx3 : BoxA w3 N L A rows.length cc := (hB3.block N hbx.lt).trans hbx
          have hbx4 : BoxA w4 N L A rows.length cc := (hg4.block N hbx3.lt (boxA_ne_map hbx3 hM3)).trans hbx3
          have hB4 := (hBk.trans (hB3.mono (by omega))).grown hg4 (by have := hB3.size; omega) (fun j e => by cases e; exact hBM)
          refine ⟨k + 1, by go_num, hkl, hA5 _ _ hbx4, by rw [HG.out]; exact hI5, ?_, hB4.trans hB5⟩
          rw [HG.out, show snd (G ++ [(k, y)]) = snd G ++ [y] by simp [snd], ← List.append_assoc]
          exact hM5 _ hM4
        case measure => simp [intOf]; omega
    · obtain rfl : k = L := by omega
      go_wp2
      go_end0
      exact ⟨rfl, hIk, hMk, hBk⟩
end Go.Proofs.YtmokccidpnpimaaDoor
