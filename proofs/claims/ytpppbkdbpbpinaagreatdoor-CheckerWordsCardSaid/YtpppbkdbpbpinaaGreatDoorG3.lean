import Derived.Test.YtpppbkdbpbpinaaGreatDoorG0
import Derived.Test.YtpppbkdbpbpinaaGreatDoorG2
set_option linter.unusedSimpArgs false
set_option linter.unusedVariables false
/- Rows of integers, rows of rows of integers that came in (no program in sight but the frame). -/
set_option linter.unusedVariables false
namespace Go.Proofs.YtpppbkdbpbpinaaGreatDoor
open Go.RowKit
theorem belowN {B : Nat} {a w : World} (h : Below B a w) (n : Nat) : Below B a (w.drewN n) := ⟨h.os, h.tape, h.output, h.size, h.block⟩
/-- a row of integers that lies -/
def RowI (w : World) (A : Option Addr) (zs : List Int) : Prop := 0 < zs.length → ∃ b o, A = some ⟨b, o, none⟩ ∧ b < w.heap.size ∧ ∀ k (hk : k < zs.length), w.cell? ⟨b, o + k, none⟩ = some (.int .i64 zs[k])
theorem RowI.below {w w' : World} {A : Option Addr} {zs : List Int} (h : RowI w A zs) (hB : Below w.heap.size w w') : RowI w' A zs := by
  intro h0
  obtain ⟨b, o, h1, h2, h3⟩ := h h0
  exact ⟨b, o, h1, Nat.lt_of_lt_of_le h2 hB.size, fun k hk => (hB.cell (p := ⟨b, o + k, none⟩) h2).trans (h3 k hk)⟩
/-- a row of rows of integers that lies -/
def RowD (w : World) (A : Option Addr) (ds : List (List Int)) : Prop := 0 < ds.length → ∃ b o, A = some ⟨b, o, none⟩ ∧ b < w.heap.size ∧ ∀ k (hk : k < ds.length), ∃ D c, w.cell? ⟨b, o + k, none⟩ = some (.slice D ds[k].length c) ∧ RowI w D ds[k]
theorem RowD.below {w w' : World} {A : Option Addr} {ds : List (List Int)} (h : RowD w A ds) (hB : Below w.heap.size w w') : RowD w' A ds := by
  intro h0
  obtain ⟨b, o, h1, h2, h3⟩ := h h0
  refine ⟨b, o, h1, Nat.lt_of_lt_of_le h2 hB.size, fun k hk => ?_⟩
  obtain ⟨D, c, c3, hd⟩ := h3 k hk
  exact ⟨D, c, (hB.cell (p := ⟨b, o + k, none⟩) h2).trans c3, hd.below hB⟩
theorem RowD.drewN {w : World} {A : Option Addr} {ds : List (List Int)} (h : RowD w A ds) (q : Nat) : RowD (w.drewN q) A ds := h
end Go.Proofs.YtpppbkdbpbpinaaGreatDoor

/- Plain: automata with few states and letters; sets of states as numbers; the search for a word that leads to one state. -/
set_option linter.unusedVariables false
namespace Go.Proofs.YtpppbkdbpbpinaaGreatDoor
/-! ### what is no automaton -/
def chkRow (n L : Nat) (row : List Int) : Int := if row.length ≠ L then 11 else if row.any (fun t => decide (t < 0) || decide ((n : Int) ≤ t)) then 25 else 0
def chkRows (n L : Nat) : List (List Int) → Int
  | [] => 0
  | r :: rs => if chkRow n L r = 0 then chkRows n L rs else chkRow n L r
def chkA (L : Int) (rows : List (List Int)) : Int :=
  if L < 1 ∨ 8 < L then 12 else if rows.length = 0 then 5 else if 16 < rows.length then 4 else chkRows rows.length L.toNat rows
theorem chkRows_drop {n L : Nat} : ∀ (rows : List (List Int)) (k : Nat), (∀ j (hj : j < rows.length), j < k → chkRow n L rows[j] = 0) → chkRows n L rows = chkRows n L (rows.drop k)
  | rows, 0, _ => by rw [List.drop_zero]
  | [], k + 1, _ => rfl
  | r :: rs, k + 1, h => by
    have h0 := h 0 (by simp) (by omega)
    rw [List.drop_succ_cons, show chkRows n L (r :: rs) = if chkRow n L r = 0 then chkRows n L rs else chkRow n L r from rfl, if_pos (show chkRow n L r = 0 from h0)]
    exact chkRows_drop rs k fun j hj hjk => h (j + 1) (by simp; omega) (by omega)
theorem chkRows_at {n L : Nat} {rows : List (List Int)} {k : Nat} (hk : k < rows.length) (h : ∀ j (hj : j < rows.length), j < k → chkRow n L rows[j] = 0) (hb : chkRow n L rows[k] ≠ 0) : chkRows n L rows = chkRow n L rows[k] := by
  rw [chkRows_drop rows k h, List.drop_eq_getElem_cons hk, show ∀ r rs, chkRows n L (r :: rs) = if chkRow n L r = 0 then chkRows n L rs else chkRow n L r from fun _ _ => rfl, if_neg hb]
theorem chkRows_ok {n L : Nat} {rows : List (List Int)} (h : ∀ j (hj : j < rows.length), chkRow n L rows[j] = 0) : chkRows n L rows = 0 := by
  rw [chkRows_drop rows rows.length (fun j hj _ => h j hj), List.drop_length]
  rfl
theorem chkRows_all {n L : Nat} : ∀ {rows : List (List Int)}, chkRows n L rows = 0 → ∀ r ∈ rows, chkRow n L r = 0
  | [], _, r, hr => by simp at hr
  | r :: rs, h, r', hr => by
    unfold chkRows at h
    by_cases h0 : chkRow n L r = 0
    · rw [if_pos h0] at h
      rcases List.mem_cons.1 hr with e | e
      · rw [e]; exact h0
      · exact chkRows_all h r' e
    · rw [if_neg h0] at h; exact absurd h h0
/-! ### sets of states -/
/-- where a letter leads from a state -/
def nx (rows : List (List Int)) (s c : Nat) : Nat := ((rows.getD s []).getD c 0).toNat
/-- where a letter leads from those of the first k states that are in a set -/
def imgK (rows : List (List Int)) (S c : Nat) : Nat → Nat
  | 0 => 0
  | k + 1 => if S.testBit k then imgK rows S c k ||| 2 ^ nx rows k c else imgK rows S c k
def img (rows : List (List Int)) (S c : Nat) : Nat := imgK rows S c rows.length
theorem chkRow_of {n L : Nat} {r : List Int} (h : chkRow n L r = 0) : r.length = L ∧ ∀ t ∈ r, 0 ≤ t ∧ t < n := by
  unfold chkRow at h
  by_cases h1 : r.length ≠ L
  · rw [if_pos h1] at h; cases h
  · rw [if_neg h1] at h
    refine ⟨by omega, fun t ht => ?_⟩
    by_cases h2 : r.any (fun t => decide (t < 0) || decide ((n : Int) ≤ t)) = true
    · rw [if_pos h2] at h; cases h
    · rw [List.any_eq_true] at h2
      have h3 : ¬ (decide (t < 0) || decide ((n : Int) ≤ t)) = true := fun e => h2 ⟨t, ht, e⟩
      simp at h3
      omega
theorem nx_lt {n L : Nat} {rows : List (List Int)} (hn : rows.length = n) (h : chkRows n L rows = 0) {s c : Nat} (hs : s < n) (hc : c < L) : nx rows s c < n := by
  have hr := chkRow_of (chkRows_all h rows[s] (List.getElem_mem _))
  unfold nx
  rw [show rows.getD s [] = rows[s] by rw [List.getD_eq_getElem?_getD, List.getElem?_eq_getElem (by omega)]; rfl]
  rw [List.getD_eq_getElem?_getD, List.getElem?_eq_getElem (by omega)]
  have := hr.2 _ (List.getElem_mem (l := rows[s]) (n := c) (by omega))
  simp only [Option.getD_some]
  omega
theorem imgK_lt {n L : Nat} {rows : List (List Int)} (hn : rows.length = n) (h : chkRows n L rows = 0) {c : Nat} (hc : c < L) (S : Nat) : ∀ k, k ≤ n → imgK rows S c k < 2 ^ n
  | 0, _ => Nat.pow_pos (by decide)
  | k + 1, hk => by
    have h1 := imgK_lt hn h hc S k (by omega)
    unfold imgK
    split
    · exact Nat.or_lt_two_pow h1 (Nat.pow_lt_pow_right (by decide) (nx_lt hn h (by omega) hc))
    · exact h1
/-! ### the search -/
/-- a set with one state -/
def sglB (S : Nat) : Bool := S != 0 && S &&& (S - 1) == 0
def ltr (c : Nat) : ByteArray := (⟨#[48, 49, 50, 51, 52, 53, 54, 55, 56, 57, 97, 98, 99, 100, 101, 102]⟩ : ByteArray).extract c (c + 1)
/-- what has been found when so many letters of a set were looked at -/
def growK (rows : List (List Int)) (x : Nat × ByteArray) (l : List (Nat × ByteArray)) : Nat → List (Nat × ByteArray)
  | 0 => l
  | c + 1 => if img rows x.1 c ∈ (growK rows x l c).map (·.1) then growK rows x l c else growK rows x l c ++ [(img rows x.1 c, x.2 ++ ltr c)]
def bfs (rows : List (List Int)) (L : Nat) : Nat → Nat → List (Nat × ByteArray) → ByteArray × Bool
  | 0, _, _ => (⟨#[]⟩, false)
  | f + 1, i, l => match l[i]? with
    | none => (⟨#[]⟩, false)
    | some x => if sglB x.1 then (x.2, true) else bfs rows L f (i + 1) (growK rows x l L)
def first (rows : List (List Int)) (L S : Nat) : ByteArray × Bool := bfs rows L 65 0 [(S, ⟨#[]⟩)]
end Go.Proofs.YtpppbkdbpbpinaaGreatDoor
