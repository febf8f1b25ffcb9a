/- indel.Ball: its contract for words of up to 12 letters, and for words that check refuses. -/
import Derived.Test.YtmajalpmbppkpaaBall
set_option linter.unusedVariables false
namespace Go.Proofs.Ytmajalpmbppkpaa
open Go.RowKit Go.Maps
/-- what Ball gives back as an error -/
def bErr (s : ByteArray) (n : Int) : Int := if ckl [s] ≠ 0 then ckl [s] else if n < 0 ∨ (s.size : Int) < n then 2 else 0
/-- what Ball gives back: the subsequences with n letters less, strictly ascending -/
def BallRes (s : ByteArray) (n : Nat) (rs : List ByteArray) : Prop := rs.Pairwise (fun a b => a.data.toList < b.data.toList) ∧ ∀ x : ByteArray, x ∈ rs ↔ Pj s.data.toList n x.data.toList
set_option maxRecDepth 100000 in
set_option maxHeartbeats 1000000 in
theorem ball_any (s : ByteArray) (n : Int) (hn : -9223372036854775808 ≤ n ∧ n ≤ 9223372036854775807) (hs : s.size ≤ 12 ∨ ckl [s] ≠ 0) (w : World) :
    Calls Try.prog 41 #[.string s, .int .i64 n] w fun e w' => ∃ vl, e = .returned (.tuple #[vl, .int .i64 (bErr s n)]) ∧ (∃ rs, Strs w' w.heap.size vl rs ∧ (bErr s n = 0 → BallRes s n.toNat rs) ∧ (bErr s n ≠ 0 → rs = [])) ∧ Below w.heap.size w w' := by
  have hrow : ∀ k (hk : k < [s].length), (w.alloc (Obj.cells #[Value.string s] 9)).cell? ⟨w.heap.size, k, none⟩ = some (.string [s][k]) := fun k hk => Strs.cell (Strs.lit w [s] (Nat.le_refl _) (by simp) _ rfl) hk
  have HI := icheck_any [s] w.heap.size 1 _ hrow (by simp)
  have HB0 := (Below.refl w.heap.size w).alloc (Nat.le_refl _) (Obj.cells #[Value.string s] 9)
  clear hrow
  by_cases hc : ckl [s] = 0
  · have hs12 : s.size ≤ 12 := hs.resolve_right (fun h => h hc)
    have HC := hide hc
    rw [hc] at HI
    have HII := hide HI
    have HBB := hide HB0
    by_cases hin : n < 0 ∨ (s.size : Int) < n
    · have hE : bErr s n = 2 := by unfold bErr; rw [if_neg (by simpa using hc), if_pos hin]
      have HE := hide hE
      clear hc HI HB0 hs hE
      by_cases hneg : n < 0
      · have h1 : decide (n < 0) = true := by simpa using hneg
        go_enter Try.func41, Try.ntmps41
        go_wp2_with fail
        refine HII.out.mono ?_
        rintro e w1 ⟨rfl, q, rfl⟩
        go_wp2
        go_ret2
        exact ⟨_, by rw [HE.out]; rfl, ⟨[], Strs.nil_ _ _, fun h => absurd (HE.out ▸ h) (by omega), fun _ => rfl⟩, belowN HBB.out q⟩
      · have h2 : (s.size : Int) < n := hin.resolve_left hneg
        have h1 : decide (n < 0) = false := by simpa using hneg
        go_enter Try.func41, Try.ntmps41
        go_wp2_with fail
        refine HII.out.mono ?_
        rintro e w1 ⟨rfl, q, rfl⟩
        go_wp2
        go_ret2
        exact ⟨_, by rw [HE.out]; rfl, ⟨[], Strs.nil_ _ _, fun h => absurd (HE.out ▸ h) (by omega), fun _ => rfl⟩, belowN HBB.out q⟩
    · have hE : bErr s n = 0 := by unfold bErr; rw [if_neg (by simpa using hc), if_neg hin]
      obtain ⟨m, rfl⟩ : ∃ m : Nat, n = m := ⟨n.toNat, by omega⟩
      have hm : m ≤ s.size := by omega
      have h1 : decide ((m : Int) < 0) = false := by simp
      have h2 : ¬ (s.size : Int) < (m : Int) := by omega
      have h3 : ¬ (m : Int) < 0 := by omega
      have HE := hide hE
      clear hc HI HB0 hs hE hin
      go_enter Try.func41, Try.ntmps41
      go_wp2_with fail
      refine HII.out.mono ?_
      rintro e w1 ⟨rfl, q, rfl⟩
      have hB1 := belowN HBB.out q
      have hz1 : w.heap.size ≤ ((w.alloc (Obj.cells #[Value.string s] 9)).drewN q).heap.size := hB1.size
      generalize (w.alloc (Obj.cells #[Value.string s] 9)).drewN q = W1 at hB1 hz1 ⊢
      clear HII HBB
      have HBF := hide (ballf_any s hs12 m hm W1)
      go_wp2_with fail
      refine HBF.out.mono ?_
      rintro e w2 ⟨b, D, rfl, hD, hsz, hSJ, hbl, hB2⟩
      have hmem := strKeys_mem hD (keys_has hD)
      have hkh := keys_has hD
      have HS := hide hSJ
      clear hSJ HBF
      go_wp2_with fail
      refine (callsIn_wide.1 (Try.maps_Keys_74 (some b) w2)).mono ?_
      rintro e w3 ⟨rfl, rfl⟩
      have hK := callsIn_wide.1 (Try.slices_Sorted_keys_73_74 b _ D _ w2 hD (by unfold maxLen; omega) (by omega))
      have hB3 : Below W1.heap.size w2 (w2.alloc (Obj.cells #[Value.map (some b)] 97)) := (Below.refl _ w2).alloc hB2.size _
      have hB4 := hB2.trans hB3
      go_wp2_with fail
      refine hK.mono ?_
      rintro e w4 ⟨v, ss, rfl, hperm, hrowS, hnil, hB5⟩
      have hB6 := hB1.trans ((hB4.trans (hB5.mono hB4.size)).mono hz1)
      clear hK hB3 hB5 hB2 hB1
      go_wp2
      go_ret2
      have hnd : ss.Nodup := hperm.nodup_iff.2 hmem.1
      obtain ⟨r1, r2⟩ := sorted_res hnd
      refine ⟨v, by rw [HE.out]; rfl, ⟨bas (ss.mergeSort leB), ?_, fun _ => ⟨r1, fun x => ?_⟩, fun h => absurd HE.out h⟩, hB6⟩
      · have hlen : (bas (ss.mergeSort leB)).length = ss.length := by unfold bas; simp
        unfold Strs
        rw [hlen]
        have hbase : w.heap.size ≤ (w2.alloc (Obj.cells #[Value.map (some b)] 97)).heap.size := Nat.le_trans hz1 hB4.size
        have he : (bas (ss.mergeSort leB)).map Value.string = (ss.mergeSort leB).map encStr := by unfold bas; rw [List.map_map]; rfl
        rw [he]
        unfold World.ownsRow at hrowS ⊢
        refine ⟨hrowS.1, ?_⟩
        rcases hrowS.2 with h' | ⟨g, cap, cur, h1, h2, h3⟩
        · exact .inl h'
        · exact .inr ⟨g, cap, cur, h1, by omega, h3⟩
      · rw [r2, hperm.mem_iff, ← hkh]; exact HS.out _
  · have h7 : (ckl [s] != 0) = true := by simpa using hc
    have hE : bErr s n = ckl [s] := by unfold bErr; rw [if_pos hc]
    have HC := hide hc
    obtain ⟨z, hz⟩ : ∃ z, z = ckl [s] := ⟨_, rfl⟩
    rw [hE]
    rw [← hz] at h7 HI ⊢
    have HZ := hide hz
    have HII := hide HI
    have HBB := hide HB0
    clear hc hz HI HB0 hE
    go_enter Try.func41, Try.ntmps41
    go_wp2_with fail
    refine HII.out.mono ?_
    rintro e w1 ⟨rfl, q, rfl⟩
    go_wp2
    go_ret2
    exact ⟨_, rfl, ⟨[], Strs.nil_ _ _, fun h => absurd (HZ.out ▸ h) HC.out, fun _ => rfl⟩, belowN HBB.out q⟩
end Go.Proofs.Ytmajalpmbppkpaa
