/- Plain law of IndelConfuses: words are confusable exactly if their balls meet; a list of three is separated exactly if no two different ones are confusable. -/
import Derived.Test.YtmajalpmbppkpaaConW
import Derived.Test.YtmajalpmbppkpaaL47b
import Derived.Test.YtmajalpmbppkpaaBallA
set_option linter.unusedVariables false
namespace Go.Proofs.Ytmajalpmbppkpaa
open Go.RowKit
theorem conf_balls {u v : ByteArray} {k : Nat} (hl : u.size = v.size) (hk : k ≤ u.size) {ra rb : List ByteArray} (ha : BallRes u k ra) (hb : BallRes v k rb) :
    (ra.any fun x => hasB x rb) = decide ((dst u v : Int) ≤ 2 * (k : Int)) := by
  have hdl := dist_lcs u.data.toList v.data.toList
  have hu : u.data.toList.length = u.size := by simp
  have hv : v.data.toList.length = v.size := by simp
  have hds : dst u v = dist u.data.toList v.data.toList := rfl
  rw [Bool.eq_iff_iff, List.any_eq_true, decide_eq_true_iff]
  constructor
  · rintro ⟨x, h1, h2⟩
    obtain ⟨p1, p2⟩ := (ha.2 x).1 h1
    obtain ⟨q1, q2⟩ := (hb.2 x).1 (hasB_iff.1 h2)
    have := lcs_max _ _ _ p1 q1
    omega
  · intro h
    obtain ⟨s, h1, h2, h3⟩ := lcs_ex u.data.toList v.data.toList
    have hlen : (s.take (u.size - k)).length = u.size - k := by rw [List.length_take]; omega
    refine ⟨⟨(s.take (u.size - k)).toArray⟩, (ha.2 _).2 ⟨?_, ?_⟩, hasB_iff.2 ((hb.2 _).2 ⟨?_, ?_⟩)⟩
    · exact (List.take_sublist _ _).trans h1
    · show (s.take (u.size - k)).length + k = u.data.toList.length
      omega
    · exact (List.take_sublist _ _).trans h2
    · show (s.take (u.size - k)).length + k = v.data.toList.length
      omega
theorem ball_len {s : ByteArray} {k : Nat} {rs : List ByteArray} (h : BallRes s k rs) : rs.length ≤ 2 ^ s.size := by
  have hn : (rs.map fun y => y.data.toList).Nodup := List.pairwise_map.2 (h.1.imp fun {a b} (hlt : a.data.toList < b.data.toList) (e : a.data.toList = b.data.toList) => by rw [e] at hlt; exact List.lt_irrefl _ hlt)
  have h1 := len_subset (m := subs s.data.toList) hn (fun x hx => by
    obtain ⟨y, hy, rfl⟩ := List.mem_map.1 hx
    exact mem_subs ((h.2 y).1 hy).1)
  rw [subs_len, List.length_map] at h1
  simpa using h1
theorem RowS.lit (w : World) (xs : List ByteArray) (hm : xs.length ≤ 4294967296) (cs : Array Value) (hc : cs = (xs.map Value.string).toArray) : RowS (w.alloc (.cells cs 9)) (some ⟨w.heap.size, 0, none⟩) xs := by
  intro hp
  refine ⟨_, rfl, by simp, fun k hk => ?_⟩
  rw [show (⟨w.heap.size, 0, none⟩ : Addr).add k = ⟨w.heap.size, k, none⟩ by simp [Addr.add]; omega]
  exact Strs.cell (Strs.lit w xs (Nat.le_refl _) hm cs hc) hk
theorem confV_of {u v : ByteArray} {n : Int} (hu : u.size ≤ 256 ∧ chk 16 u.data.toList = 0) (hv : v.size ≤ 256 ∧ chk 16 v.data.toList = 0) (hl : u.size = v.size) (hn : 0 ≤ n) (hn2 : n ≤ u.size) :
    confV u v n = (decide ((dst u v : Int) ≤ 2 * n), 0) := by
  unfold confV
  rw [if_neg (by
    rw [ckl_of fun s hs => by
      simp only [List.mem_cons, List.not_mem_nil, or_false] at hs
      rcases hs with rfl | rfl
      · exact hu
      · exact hv]
    simp), if_neg (by simpa using hl), if_neg (by omega)]
theorem ck_one {s : ByteArray} (h : s.size ≤ 256 ∧ chk 16 s.data.toList = 0) : ckl [s] = 0 := ckl_of fun t ht => by
  simp only [List.mem_cons, List.not_mem_nil, or_false] at ht
  subst ht; exact h
theorem bErr_of {s : ByteArray} {n : Int} (h : s.size ≤ 256 ∧ chk 16 s.data.toList = 0) (hn : 0 ≤ n) (hn2 : n ≤ s.size) : bErr s n = 0 := by
  unfold bErr
  rw [if_neg (by rw [ck_one h]; simp), if_neg (by omega)]
theorem dst_sym (u v : ByteArray) : dst u v = dst v u := by unfold dst; exact dist_sym _ _
theorem sep3 (u v s : ByteArray) (n : Int) : sepB [u, v, s] n = (((u.toList == v.toList) || !decide ((dst u v : Int) ≤ 2 * n)) && ((u.toList == s.toList) || !decide ((dst u s : Int) ≤ 2 * n)) && ((v.toList == s.toList) || !decide ((dst v s : Int) ≤ 2 * n))) := by
  have he : ∀ a b : ByteArray, (a.toList == b.toList) = decide (b = a) := by
    intro a b
    by_cases h : b = a
    · subst h; rw [str_self]; simp
    · rw [str_ne (fun e => h e.symm), decide_eq_false h]
  rw [he, he, he]
  have hn : ∀ a b : ByteArray, near n a b = !(decide (a = b) || !decide ((dst b a : Int) ≤ 2 * n)) := by
    intro a b
    unfold near
    rw [dst_sym a b]
    by_cases h : a = b <;> simp [h]
  unfold sepB
  simp only [List.length_cons, List.length_nil]
  rw [show List.range (0 + 1 + 1 + 1) = [0, 1, 2] from rfl]
  simp only [List.all_cons, List.all_nil, List.range_zero, show List.range 1 = [0] from rfl, show List.range 2 = [0, 1] from rfl, List.getD_cons_zero, List.getD_cons_succ, Bool.and_true, Bool.true_and, hn, Bool.not_not]
  simp only [Bool.and_assoc]
theorem sepV3 {u v s : ByteArray} {n : Int} (hu : u.size ≤ 256 ∧ chk 16 u.data.toList = 0) (hv : v.size ≤ 256 ∧ chk 16 v.data.toList = 0) (hs : s.size ≤ 256 ∧ chk 16 s.data.toList = 0)
    (h1 : u.size = v.size) (h2 : v.size = s.size) (hn : 0 ≤ n) (hn2 : n ≤ u.size) : sepV [u, v, s] n = (sepB [u, v, s] n, 0) := by
  unfold sepV
  rw [if_neg (by simp), if_neg (by simp only [ckAll, ck_one hu, ck_one hv, ck_one hs]; simp), if_neg, if_neg (by simp only [let0]; omega)]
  rw [Classical.not_not]
  intro x hx
  simp only [List.mem_cons, List.not_mem_nil, or_false] at hx
  simp only [let0]
  rcases hx with rfl | rfl | rfl <;> omega
end Go.Proofs.Ytmajalpmbppkpaa
