/- Rows of sectors that came in; grooveref58.GreatList. -/
import Derived.Test.YtmajalpmbppkpaaRSep
set_option linter.unusedVariables false
namespace Go.Proofs.Ytmajalpmbppkpaa
open Go.RowKit
structure Sct where
  ix : Int
  pos : Int
  st : Int
  dt : List Int
/-- a row of integers that lies -/
def RowI (w : World) (A : Option Addr) (zs : List Int) : Prop := 0 < zs.length → ∃ b o, A = some ⟨b, o, none⟩ ∧ b < w.heap.size ∧ ∀ k (hk : k < zs.length), w.cell? ⟨b, o + k, none⟩ = some (.int .i64 zs[k])
theorem RowI.below {w w' : World} {A : Option Addr} {zs : List Int} (h : RowI w A zs) (hB : Below w.heap.size w w') : RowI w' A zs := by
  intro h0
  obtain ⟨b, o, h1, h2, h3⟩ := h h0
  exact ⟨b, o, h1, Nat.lt_of_lt_of_le h2 hB.size, fun k hk => (hB.cell (p := ⟨b, o + k, none⟩) h2).trans (h3 k hk)⟩
/-- a row of sectors that lies -/
def RowC (w : World) (A : Option Addr) (xs : List Sct) : Prop := 0 < xs.length → ∃ b o, A = some ⟨b, o, none⟩ ∧ b < w.heap.size ∧ ∀ k (hk : k < xs.length),
  w.cell? ⟨b, o + k * 4, none⟩ = some (.int .i64 xs[k].ix) ∧ w.cell? ⟨b, o + k * 4 + 1, none⟩ = some (.int .i64 xs[k].pos) ∧ w.cell? ⟨b, o + k * 4 + 2, none⟩ = some (.int .i64 xs[k].st) ∧
    ∃ D c, w.cell? ⟨b, o + k * 4 + 3, none⟩ = some (.slice D xs[k].dt.length c) ∧ RowI w D xs[k].dt
theorem RowC.below {w w' : World} {A : Option Addr} {xs : List Sct} (h : RowC w A xs) (hB : Below w.heap.size w w') : RowC w' A xs := by
  intro h0
  obtain ⟨b, o, h1, h2, h3⟩ := h h0
  refine ⟨b, o, h1, Nat.lt_of_lt_of_le h2 hB.size, fun k hk => ?_⟩
  obtain ⟨c0, c1, c2, D, c, c3, hd⟩ := h3 k hk
  have e : ∀ n, w'.cell? ⟨b, n, none⟩ = w.cell? ⟨b, n, none⟩ := fun n => hB.cell (p := ⟨b, n, none⟩) h2
  exact ⟨(e _).trans c0, (e _).trans c1, (e _).trans c2, D, c, (e _).trans c3, hd.below hB⟩
theorem RowC.drewN {w : World} {A : Option Addr} {xs : List Sct} (h : RowC w A xs) (q : Nat) : RowC (w.drewN q) A xs := h
def greatB (xs : List Sct) : Bool := xs.any (fun x => decide (12 < x.dt.length)) || decide (12 < xs.length)
set_option maxRecDepth 100000 in
set_option maxHeartbeats 1000000 in
theorem great_any (xs : List Sct) (A : Option Addr) (c : Nat) (w : World) (hR : RowC w A xs) (hb : xs.length ≤ 9223372036854775807) :
    Calls Try.prog 12 #[.slice A xs.length c] w fun e w' => e = .returned (.bool (greatB xs)) ∧ w = w' := by
  have HR := hide hR
  clear hR
  go_enter Try.func12, Try.ntmps12
  go_wp2
  go_loopw [3] (fun iv wr => ∃ k : Nat, iv = .int .i64 k ∧ k ≤ xs.length ∧ Hid (∀ j (hj : j < xs.length), j < k → xs[j].dt.length ≤ 12) ∧ wr = w) (fun iv _ => xs.length - (intOf iv).toNat)
  case atStart => exact ⟨0, rfl, Nat.zero_le _, hide fun j _ h => absurd h (by omega), rfl⟩
  case round =>
    obtain ⟨k, rfl, hk, hK, rfl⟩ := hrel
    by_cases hlt : k < xs.length
    · obtain ⟨b0, o0, rfl, ha, hcell⟩ := HR.out (by omega)
      obtain ⟨c0, c1, c2, D, cd, c3, hd⟩ := hcell k hlt
      obtain ⟨m, hm⟩ : ∃ m, m = xs[k].dt.length := ⟨_, rfl⟩
      rw [← hm] at c3
      have HM := hide hm
      have hk0 : (0 : Int) ≤ (k : Int) := by omega
      have hk1 : (k : Int) < (xs.length : Int) := by omega
      clear hcell hd c0 c1 c2 hm
      by_cases h12 : 12 < m
      · have hd : decide ((12 : Int) < (m : Int)) = true := decide_eq_true (by omega)
        have HG := hide (show greatB xs = true by
          unfold greatB
          rw [List.any_eq_true.2 ⟨xs[k], List.getElem_mem hlt, by rw [← HM.out]; exact decide_eq_true h12⟩, Bool.true_or])
        go_wp2
        go_ret
        exact ⟨by rw [HG.out]; rfl, rfl⟩
      · have hd : decide ((12 : Int) < (m : Int)) = false := decide_eq_false (by omega)
        have H12 := hide h12
        clear h12
        go_wp2
        go_roundw
        case rel =>
          refine ⟨k + 1, by go_num, hlt, hide fun j hj hjk => ?_, by first | exact trivial | rfl⟩
          rcases Nat.lt_or_ge j k with h | h
          · exact hK.out j hj h
          · obtain rfl : j = k := by omega
            have := HM.out
            have := H12.out
            omega
        case measure => simp [intOf]; omega
    · obtain rfl : k = xs.length := by omega
      have HA := hide (show xs.any (fun x => decide (12 < x.dt.length)) = false by
        rw [List.any_eq_false]
        intro x hx
        obtain ⟨j, hj, rfl⟩ := List.getElem_of_mem hx
        have := hK.out j hj hj
        simpa using this)
      cases h12 : decide ((12 : Int) < (xs.length : Int)) <;> (
        have HG := hide (show greatB xs = _ by
          unfold greatB
          rw [HA.out, Bool.false_or, show decide (12 < xs.length) = decide ((12 : Int) < (xs.length : Int)) from decide_eq_decide.2 (by omega)]
          )
        go_wp2
        go_ret
        exact ⟨by rw [HG.out]; first | rfl | (rw [h12]; rfl), rfl⟩)
end Go.Proofs.Ytmajalpmbppkpaa
