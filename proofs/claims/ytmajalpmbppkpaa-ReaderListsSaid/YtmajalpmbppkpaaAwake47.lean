/- Contract of groovelaw47.awake: it returns true, and nothing that lay has changed. -/
import Derived.Test.YtmajalpmbppkpaaFine
import Derived.Test.YtmajalpmbppkpaaCom
import Derived.Test.YtmajalpmbppkpaaDel
import Derived.Test.YtmajalpmbppkpaaEvE
import Derived.KernelRfl
set_option linter.unusedVariables false
namespace Go.Proofs.Ytmajalpmbppkpaa
open Go.RowKit
theorem asc_eq {l l' : List ByteArray} (h : l.Pairwise (fun a b => a.data.toList < b.data.toList)) (h' : l'.Pairwise (fun a b => a.data.toList < b.data.toList)) (hm : ∀ x, x ∈ l ↔ x ∈ l') : l = l' := by
  have nd : ∀ {l : List ByteArray}, l.Pairwise (fun a b => a.data.toList < b.data.toList) → l.Nodup := fun h => h.imp (fun {a b} hab e => by subst e; exact List.lt_irrefl _ hab)
  exact List.Perm.eq_of_pairwise (le := fun a b => a.data.toList < b.data.toList) (fun a b _ _ h1 h2 => absurd h1 (List.lt_asymm h2)) h h' ((List.perm_ext_iff_of_nodup (nd h) (nd h')).2 hm)
theorem ba_ext {a b : ByteArray} (h : a.data.toList = b.data.toList) : a = b := ByteArray.ext (Array.toList_inj.1 h)
theorem RdE.below {w w' : World} {B : Nat} {v : Value} {xs : List Ev} (h : RdE w v xs) (hb : Below B w w') (hB : w.heap.size ≤ B) : RdE w' v xs := by
  rcases h with h | ⟨g, c, rfl, hc⟩
  · exact .inl h
  · by_cases hp : 0 < xs.length
    · refine .inr ⟨g, c, rfl, fun k hk => ?_⟩
      have hlt : g < B := Nat.lt_of_lt_of_le (World.block_lt_of_cell? w _ (hc k hk).1) hB
      obtain ⟨h0, h1, h2, h3⟩ := hc k hk
      exact ⟨(hb.cell (p := ⟨g, k * 4, none⟩) hlt).trans h0, (hb.cell (p := ⟨g, k * 4 + 1, none⟩) hlt).trans h1, (hb.cell (p := ⟨g, k * 4 + 2, none⟩) hlt).trans h2, (hb.cell (p := ⟨g, k * 4 + 3, none⟩) hlt).trans h3⟩
    · have e : xs = [] := List.eq_nil_of_length_eq_zero (by omega)
      subst e
      exact .inl ⟨rfl, _, c, rfl⟩
theorem RdE.lit (w : World) (xs : List Ev) (c : Nat) : RdE (w.alloc (Obj.cells (xs.flatMap Ev.cells).toArray 47)) (.slice (some ⟨w.heap.size, 0, none⟩) xs.length c) xs := by
  refine .inr ⟨w.heap.size, c, rfl, EvAt.of fun i u hu => ?_⟩
  rw [cell_of_row _ w.heap.size i _ 47 (0, 0) (heap_alloc_new w _)]
  simpa using hu
theorem ex_dist : distV ⟨#[48, 49, 49, 48]⟩ ⟨#[49, 48, 49]⟩ = (3, 0) := by kernel_rfl
theorem ex_com : commonV ⟨#[48, 49, 49, 48]⟩ ⟨#[49, 48, 49]⟩ = (⟨#[48, 49]⟩, 0) := by kernel_rfl
theorem ex_script : scriptV ⟨#[48, 49, 49]⟩ ⟨#[49, 48, 49]⟩ = ([⟨4, 0, 1, 0⟩, ⟨5, 2, 1, 0⟩], 0) := by kernel_rfl
theorem ex_ckl : ckl [⟨#[48, 49, 49, 48]⟩] = 0 := by kernel_rfl
theorem ex_dels : dels ⟨#[48, 49, 49, 48]⟩ 4 = [[49, 49, 48], [48, 49, 48], [48, 49, 49]] := by kernel_rfl
theorem ex_rs {rs : List ByteArray} (h : DelRes ⟨#[48, 49, 49, 48]⟩ rs) : rs = [⟨#[48, 49, 48]⟩, ⟨#[48, 49, 49]⟩, ⟨#[49, 49, 48]⟩] := by
  refine asc_eq h.1 ?_ fun x => ?_
  · simp [List.pairwise_cons]
    decide
  · rw [h.2 x]
    show x.data.toList ∈ dels ⟨#[48, 49, 49, 48]⟩ 4 ↔ _
    rw [ex_dels]
    constructor
    · intro hx
      simp only [List.mem_cons, List.not_mem_nil, or_false] at hx ⊢
      rcases hx with hx | hx | hx
      · exact .inr (.inr (ba_ext hx))
      · exact .inl (ba_ext hx)
      · exact .inr (.inl (ba_ext hx))
    · intro hx
      simp only [List.mem_cons, List.not_mem_nil, or_false] at hx ⊢
      rcases hx with rfl | rfl | rfl
      · exact .inr (.inl rfl)
      · exact .inr (.inr rfl)
      · exact .inl rfl
set_option maxRecDepth 100000 in
set_option maxHeartbeats 1000000 in
theorem awake47_any (w : World) : Calls Try.prog 24 #[] w fun e w' => e = .returned (.bool true) ∧ Below w.heap.size w w' := by
  have c1 := fun W => dist_any ⟨#[48, 49, 49, 48]⟩ ⟨#[49, 48, 49]⟩ W
  rw [ex_dist] at c1
  have c2 := fun W => common_any ⟨#[48, 49, 49, 48]⟩ ⟨#[49, 48, 49]⟩ W
  rw [ex_com] at c2
  have c3 := fun W => del_any ⟨#[48, 49, 49, 48]⟩ W
  rw [ex_ckl] at c3
  have c4 := fun W => script_any ⟨#[48, 49, 49]⟩ ⟨#[49, 48, 49]⟩ W
  rw [ex_script] at c4
  have H1 := hide c1
  have H2 := hide c2
  have H3 := hide c3
  have H4 := hide c4
  clear c1 c2 c3 c4
  have hmax : ∀ W, (Builtin.max_ #[29, 29, 29, 29] 29 #[.int .i64 0, .int .i64 0, .int .i64 0, .int .i64 0]).run Try.prog W = .ok (.int .i64 0) W := fun _ => by kernel_rfl
  go_enter Try.func24, Try.ntmps24
  go_wp2_with fail
  refine (H1.out _).mono ?_
  rintro e w1 ⟨rfl, hB1⟩
  go_wp2_with fail
  refine (H2.out _).mono ?_
  rintro e w2 ⟨rfl, hB2⟩
  go_wp2_with fail
  refine (H3.out _).mono ?_
  rintro e w3 ⟨v3, rfl, ⟨rs, hrow3, hd3, _⟩, hB3⟩
  obtain rfl := ex_rs (hd3 trivial)
  clear hd3
  obtain ⟨g3, cap3, hv3, hg1, hg2⟩ := hrow3.form (by simp)
  subst hv3
  go_wp2_with fail
  refine (H4.out _).mono ?_
  rintro e w4 ⟨v4, rfl, hrow4, hB4⟩
  have hr3 : RdS w4 (.slice (some ⟨g3, 0, none⟩) 3 cap3) [⟨#[48, 49, 48]⟩, ⟨#[48, 49, 49]⟩, ⟨#[49, 49, 48]⟩] := by
    refine .inr ⟨g3, cap3, rfl, fun k hk => ?_⟩
    rw [hB4.cell (p := ⟨g3, k, none⟩) hg2]
    exact hrow3.cell hk
  have hr4 := hrow4.rd
  have hB5 := below2 (below2 (below2 hB1 hB2) hB3) hB4
  clear hrow3 hrow4 hB1 hB2 hB3 hB4
  go_wp2_with fail
  have hr5 : RdS (w4.alloc (Obj.cells #[Value.string ⟨#[48, 49, 48]⟩, Value.string ⟨#[48, 49, 49]⟩, Value.string ⟨#[49, 49, 48]⟩] 9)) (.slice (some ⟨g3, 0, none⟩) 3 cap3) [⟨#[48, 49, 48]⟩, ⟨#[48, 49, 49]⟩, ⟨#[49, 49, 48]⟩] := by
    rcases hr3 with ⟨h, _⟩ | ⟨g', c', he, hc⟩
    · cases h
    · refine .inr ⟨g', c', he, fun k hk => ?_⟩
      have h1 := hc k hk
      exact (World.cell?_alloc_lt w4 _ ⟨g', k, none⟩ (World.block_lt_of_cell? w4 _ h1)).trans h1
  have hr6 := (Strs.lit w4 [⟨#[48, 49, 48]⟩, ⟨#[48, 49, 49]⟩, ⟨#[49, 49, 48]⟩] (Nat.le_refl _) (by simp) _ rfl).rd
  refine (slEqual_any _ _ _ _ _ hr5 hr6 (by simp) (by simp)).mono ?_
  rintro e w6 ⟨rfl, q, rfl⟩
  have htr : decide ((([⟨#[48, 49, 48]⟩, ⟨#[48, 49, 49]⟩, ⟨#[49, 49, 48]⟩] : List ByteArray) = [⟨#[48, 49, 48]⟩, ⟨#[48, 49, 49]⟩, ⟨#[49, 49, 48]⟩])) = true := by simp
  rw [htr]
  have hB6 := belowN (hB5.alloc hB5.size (Obj.cells #[Value.string ⟨#[48, 49, 48]⟩, Value.string ⟨#[48, 49, 49]⟩, Value.string ⟨#[49, 49, 48]⟩] 9)) q
  have hr7 : RdE ((w4.alloc (Obj.cells #[Value.string ⟨#[48, 49, 48]⟩, Value.string ⟨#[48, 49, 49]⟩, Value.string ⟨#[49, 49, 48]⟩] 9)).drewN q) v4 [⟨4, 0, 1, 0⟩, ⟨5, 2, 1, 0⟩] := by
    refine RdE.below hr4 (belowN ((Below.refl w4.heap.size w4).alloc (Nat.le_refl _) _) q) (Nat.le_refl _)
  clear hr3 hr4 hr5 hr6 htr hB5
  generalize (w4.alloc (Obj.cells #[Value.string ⟨#[48, 49, 48]⟩, Value.string ⟨#[48, 49, 49]⟩, Value.string ⟨#[49, 49, 48]⟩] 9)).drewN q = W at hB6 hr7 ⊢
  go_wp2_with fail
  have hr8 := RdE.below hr7 ((Below.refl W.heap.size W).alloc (Nat.le_refl _) (Obj.cells #[Value.int .i64 4, Value.int .i64 0, Value.int .i64 1, Value.int .i64 0, Value.int .i64 5, Value.int .i64 2, Value.int .i64 1, Value.int .i64 0] 47)) (Nat.le_refl _)
  have hr9 := RdE.lit W [⟨4, 0, 1, 0⟩, ⟨5, 2, 1, 0⟩] 2
  refine (evEqual_any _ _ _ _ _ hr8 hr9 (by simp) (by simp)).mono ?_
  rintro e w6 ⟨⟨b, rfl, hb⟩, q, rfl⟩
  obtain rfl : b = true := hb.2 rfl
  have HB := hide (belowN (hB6.alloc hB6.size (Obj.cells #[Value.int .i64 4, Value.int .i64 0, Value.int .i64 1, Value.int .i64 0, Value.int .i64 5, Value.int .i64 2, Value.int .i64 1, Value.int .i64 0] 47)) q)
  clear hr7 hr8 hr9 hB6 hb
  go_wp2
  go_ret
  exact ⟨rfl, HB.out⟩
end Go.Proofs.Ytmajalpmbppkpaa
