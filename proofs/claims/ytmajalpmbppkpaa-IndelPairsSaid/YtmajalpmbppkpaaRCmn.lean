/- grooveref47.length and Common. -/
import Derived.Test.YtmajalpmbppkpaaRScr
import Derived.Test.YtmajalpmbppkpaaRComP
import Derived.Test.YtmajalpmbppkpaaCom
import Derived.Laws.IdiomStrings
import Derived.KernelRfl
set_option linter.unusedVariables false
namespace Go.Proofs.Ytmajalpmbppkpaa
open Go.RowKit
set_option maxHeartbeats 1000000 in
theorem rlen_any (u v : ByteArray) (hu : u.size ≤ 256) (hv : v.size ≤ 256) (O i k : Nat) (hi : i ≤ u.size) (hk : k ≤ v.size) (I K : Int) (hI : I = i) (hK : K = k) (L : Nat) (hL : L = lcsAt u v i k) (w : World) (h : TT w O u v) :
    Calls Try.prog 70 #[.string u, .string v, .slice (some ⟨O, 0, none⟩) (u.size + 1) (u.size + 1), .int .i64 I, .int .i64 K] w fun e w' => e = .returned (.int .i64 (L : Int)) ∧ w = w' := by
  subst hI hK
  have co := h.outer i hi
  have cr := h.rows i hi k hk
  have hd := dAt_lcs u v i k hi hk
  rw [← hL] at hd
  obtain ⟨D, hD⟩ : ∃ D, D = dAt u v i k := ⟨_, rfl⟩
  rw [← hD] at cr hd
  have hL2 : L ≤ 256 := by omega
  have i0 : (0 : Int) ≤ (i : Int) := by omega
  have i1 : (i : Int) < (u.size : Int) + 1 := by omega
  have k0 : (0 : Int) ≤ (k : Int) := by omega
  have k1 : (k : Int) < (v.size : Int) + 1 := by omega
  have w1 : IntKind.i64.wrap ((u.size : Int) - (i : Int)) = (u.size : Int) - (i : Int) := IntWalk.i64_in _ (by omega)
  have w2 : IntKind.i64.wrap ((u.size : Int) - (i : Int) + (v.size : Int)) = (u.size : Int) - (i : Int) + (v.size : Int) := IntWalk.i64_in _ (by omega)
  have w3 : IntKind.i64.wrap ((u.size : Int) - (i : Int) + (v.size : Int) - (k : Int)) = (u.size : Int) - (i : Int) + (v.size : Int) - (k : Int) := IntWalk.i64_in _ (by omega)
  have w4 : IntKind.i64.wrap ((u.size : Int) - (i : Int) + (v.size : Int) - (k : Int) - (D : Int)) = 2 * (L : Int) := by rw [IntWalk.i64_in _ (by omega)]; omega
  have w5 : Int.tdiv (2 * (L : Int)) 2 = (L : Int) := by rw [Int.tdiv_eq_ediv_of_nonneg (by omega)]; omega
  have w6 : IntKind.i64.wrap (L : Int) = (L : Int) := IntWalk.i64_in _ (by omega)
  clear hd hL hD
  go_enter Try.func70, Try.ntmps70
  go_wp2_with fail
  go_ret
  exact ⟨rfl, rfl⟩
def lf (u v : ByteArray) (I K : Int) : Int := (lcsAt u v I.toNat K.toNat : Nat)
theorem rlen_f (u v : ByteArray) (hu : u.size ≤ 256) (hv : v.size ≤ 256) (O : Nat) (I K : Int) (hI : 0 ≤ I ∧ I ≤ (u.size : Int)) (hK : 0 ≤ K ∧ K ≤ (v.size : Int)) (w : World) (h : TT w O u v) :
    Calls Try.prog 70 #[.string u, .string v, .slice (some ⟨O, 0, none⟩) (u.size + 1) (u.size + 1), .int .i64 I, .int .i64 K] w fun e w' => e = .returned (.int .i64 (lf u v I K)) ∧ w = w' :=
  rlen_any u v hu hv O I.toNat K.toNat (by omega) (by omega) I K (by omega) (by omega) _ rfl w h
theorem TT.drewN {w : World} {O : Nat} {u v : ByteArray} (h : TT w O u v) (n : Nat) : TT (w.drewN n) O u v := ⟨h.outer, h.rows⟩
/-- what the search has found when it stands at a and b -/
def SR (u v : ByteArray) (i k a b : Nat) (bst : Nat) : Prop :=
  (bst = 0 ∧ ∀ a' b' c, hit u v i k a' b' c → (a' < a ∨ (a' = a ∧ b' < b)) → False) ∨
  ∃ c : UInt8, (bst = c.toNat ∧ bst ≠ 0) ∧ (∃ a' b', hit u v i k a' b' c) ∧ ∀ a' b' d, hit u v i k a' b' d → (a' < a ∨ (a' = a ∧ b' < b)) → c ≤ d
theorem SR.start (u v : ByteArray) (i k : Nat) : SR u v i k i k 0 := .inl ⟨rfl, fun a' b' c h hl => by obtain ⟨h1, h2, _⟩ := h; omega⟩
/-- the next row -/
theorem SR.row {u v : ByteArray} {i k a b bst : Nat} (h : SR u v i k a b bst) (hb : v.size ≤ b) : SR u v i k (a + 1) k bst := by
  have key : ∀ a' b' c, hit u v i k a' b' c → (a' < a + 1 ∨ (a' = a + 1 ∧ b' < k)) → (a' < a ∨ (a' = a ∧ b' < b)) := by
    intro a' b' c h hl
    obtain ⟨_, h2, _, h4, _⟩ := h
    omega
  rcases h with ⟨h1, h2⟩ | ⟨c, h1, h2, h3⟩
  · exact .inl ⟨h1, fun a' b' c h hl => h2 a' b' c h (key a' b' c h hl)⟩
  · exact .inr ⟨c, h1, h2, fun a' b' d h hl => h3 a' b' d h (key a' b' d h hl)⟩
/-- no hit here -/
theorem SR.miss {u v : ByteArray} {i k a b bst : Nat} (h : SR u v i k a b bst) (hm : ∀ c, ¬ hit u v i k a b c) : SR u v i k a (b + 1) bst := by
  have key : ∀ a' b' c, hit u v i k a' b' c → (a' < a ∨ (a' = a ∧ b' < b + 1)) → (a' < a ∨ (a' = a ∧ b' < b)) := by
    intro a' b' c hh hl
    by_cases e : a' = a ∧ b' = b
    · obtain ⟨rfl, rfl⟩ := e
      exact absurd hh (hm c)
    · omega
  rcases h with ⟨h1, h2⟩ | ⟨c, h1, h2, h3⟩
  · exact .inl ⟨h1, fun a' b' c h hl => h2 a' b' c h (key a' b' c h hl)⟩
  · exact .inr ⟨c, h1, h2, fun a' b' d h hl => h3 a' b' d h (key a' b' d h hl)⟩
theorem hit_letter {u v : ByteArray} {i k a b : Nat} {c : UInt8} (h : hit u v i k a b c) (ha : a < u.size) : u[a] = c := by
  obtain ⟨_, _, _, _, h, _⟩ := h
  exact h
/-- a hit that is taken -/
theorem SR.take_ {u v : ByteArray} {i k a b bst : Nat} (h : SR u v i k a b bst) (ha : a < u.size) (hh : hit u v i k a b u[a]) (ht : bst = 0 ∨ u[a].toNat < bst) (hz : u[a].toNat ≠ 0) : SR u v i k a (b + 1) u[a].toNat := by
  refine .inr ⟨u[a], ⟨rfl, hz⟩, ⟨a, b, hh⟩, fun a' b' d hd hl => ?_⟩
  by_cases e : a' = a ∧ b' = b
  · obtain ⟨rfl, rfl⟩ := e
    rw [hit_letter hd ha]; exact UInt8.le_refl _
  · have hl' : a' < a ∨ (a' = a ∧ b' < b) := by omega
    rcases h with ⟨h1, h2⟩ | ⟨c, h1, h2, h3⟩
    · exact absurd (h2 a' b' d hd hl') id
    · have hcd := h3 a' b' d hd hl'
      rw [UInt8.le_iff_toNat_le] at hcd ⊢
      rcases ht with ht | ht
      · omega
      · omega
theorem SR.keep {u v : ByteArray} {i k a b bst : Nat} (h : SR u v i k a b bst) (ha : a < u.size) (h0 : bst ≠ 0) (ht : ¬ u[a].toNat < bst) : SR u v i k a (b + 1) bst := by
  rcases h with ⟨h1, h2⟩ | ⟨c, h1, h2, h3⟩
  · exact absurd h1 h0
  · refine .inr ⟨c, h1, h2, fun a' b' d hd hl => ?_⟩
    by_cases e : a' = a ∧ b' = b
    · obtain ⟨rfl, rfl⟩ := e
      have := hit_letter hd ha
      rw [UInt8.le_iff_toNat_le, ← this]
      omega
    · exact h3 a' b' d hd (by omega)
def byt (b : UInt8) : Value := .int .u8 (b.toNat : Int)
theorem infoByte : (Try.prog.info? 5).map (fun i => (i.zero, i.size, i.bytes)) = some (some (.int .u8 0), 1, 1) := by kernel_rfl
def Bys (w : World) (B : Nat) (v : Value) (l : List UInt8) : Prop := w.ownsRow B 5 1 v l.length (l.map byt)
theorem Bys.empty_ {w : World} {B g : Nat} (hg : w.heap.size = g) (hB : B ≤ g) : Bys (w.alloc (.cells #[] 5)) B (.slice (some ⟨g, 0, none⟩) 0 0) [] := by
  subst hg
  exact World.ownsRow_made (base := B) (e := 5) (size := 1) w #[] 0 hB (by decide) rfl
theorem Bys.alloc {w : World} {B : Nat} {v : Value} {l : List UInt8} (h : Bys w B v l) (o : Obj) : Bys (w.alloc o) B v l := World.ownsRow.alloc h o
theorem Bys.drewN {w : World} {B : Nat} {v : Value} {l : List UInt8} (h : Bys w B v l) (n : Nat) : Bys (w.drewN n) B v l := h
theorem below_appb {W w w' : World} {B : Nat} {v : Value} {xs : List UInt8} (hB : Below B W w) (hw : B ≤ w.heap.size) (hs : Bys w B v xs) (hg : w.grownBy w' v.ownBlock) : Below B W w' :=
  hB.grown hg hw (fun _ hk => (World.ownsRow.lt hs _ hk).1)
theorem wpList_app_byte {w : World} {ops : Array Oper} {rest : List Oper} {o : Oper} {a : Act} {Q : Exit → Act → World → Prop} (hgd : o.guard = none) (s x : Operand)
    (ho : o.op = .call { callee := .builtin .append, args := #[s, x], argTypes := #[85, 85] })
    (B : Nat) (v : Value) (l : List UInt8) (hs : a.eval s = v) (hown : Bys w B v l)
    (g : Nat) (b : UInt8) (hx : a.eval x = .slice (some ⟨g, 0, none⟩) 1 1) (hblk : w.heap[g]? = some (.cells #[.int .u8 (b.toNat : Int)] 5 (0, 0)))
    (hb : l.length + 1 ≤ 4294967296) (hbase : B ≤ w.heap.size)
    (h : ∀ v' w', Bys w' B v' (l ++ [b]) → w.grownBy w' v.ownBlock → wpList Try.prog ops Q rest (a.put o.dst v') w') : wpList Try.prog ops Q (o :: rest) a w := by
  obtain ⟨i0, hi, hz0, hz1, hz2⟩ := info_parts infoByte
  refine wpList_append_own w hgd s x 85 ho B 5 i0 _ 1 1 Try.underlying85 hi hz0 hz1 hz2 rfl (by decide) v l.length (l.map byt) hs hown ⟨g, 0, none⟩ 1 1 [.int .u8 (b.toNat : Int)] hx rfl ?_ ?_ (by unfold maxLen; omega) (by omega) hbase ?_
  · intro j u hj
    have : (⟨g, 0, none⟩ : Addr).add j = ⟨g, j, none⟩ := by unfold Addr.add; split <;> simp_all
    rw [this, cell_of_row w g j _ 5 (0, 0) hblk]
    simpa using hj
  · intro u hu
    simp at hu; subst hu; rfl
  · intro v' w' h1 h2 _
    refine h v' w' ?_ h2
    unfold Bys
    rw [List.length_append, List.map_append]
    exact h1
theorem run_back_own {w : World} {B : Nat} {v : Value} {l : List UInt8} (h : Bys w B v l) : (convert 85 9 v).run Try.prog w = .ok (.string ⟨l.toArray⟩) w := by
  rcases h.2 with ⟨rfl, hn⟩ | ⟨g, cap, cur, rfl, hb, hh, hnc, hcm, hcs, htk⟩
  · have : l = [] := List.eq_nil_of_length_eq_zero hn
    subst this
    show _ = _
    kernel_rfl
  · refine run_convert_bytes_back w 85 9 5 ⟨g, 0, none⟩ cap l Try.underlying85 Try.underlying5 Try.underlying9 fun j hj => ?_
    have : (⟨g, 0, none⟩ : Addr).add j = ⟨g, j, none⟩ := by unfold Addr.add; split <;> simp_all
    rw [this, World.ownsRow.cellAt h j (by omega)]
    simp [hj, byt]
set_option maxRecDepth 100000 in
set_option maxHeartbeats 6000000 in
theorem rcommon_any (u v : ByteArray) (w : World) :
    Calls Try.prog 31 #[.string u, .string v] w fun e w' => e = .returned (.tuple #[.string (commonV u v).1, .int .i64 (commonV u v).2]) ∧ Below w.heap.size w w' := by
  have C0 := fun W => rtwo_any u v W
  by_cases hc : ckl [u, v] = 0
  · have hs := ckl_sizes hc
    have hu : u.size ≤ 256 := hs u (by simp)
    have hv : v.size ≤ 256 := hs v (by simp)
    have HW := hide (ckl_lets hc u (by simp))
    have HD := hide (show commonV u v = (⟨(com (u.size + 1) u.data.toList v.data.toList).toArray⟩, 0) by unfold commonV; rw [if_pos hc])
    rw [hc] at C0
    have H0 := hide C0
    clear hc hs C0
    obtain ⟨O, hO⟩ : ∃ O, w.heap.size = O := ⟨_, rfl⟩
    have H1 := hide (rtable_any u v hu hv w O hO)
    go_enter Try.func31, Try.ntmps31
    go_wp2_with fail
    refine (H0.out _).mono ?_
    rintro e w1 ⟨rfl, rfl⟩
    go_wp2_with fail
    refine H1.out.mono ?_
    rintro e w2 ⟨rfl, hT⟩
    have hTT := hT.tt
    have hB := hT.bel
    obtain ⟨S, hS⟩ : ∃ S, w2.heap.size = S := ⟨_, rfl⟩
    have hSz : S = O + 2 + u.size := by have := hT.size; omega
    have hHS := hide hSz
    clear hT H0 H1
    have hE0 : Bys (w2.alloc (.cells #[] 5)) S (.slice (some ⟨S, 0, none⟩) 0 0) [] := Bys.empty_ hS (Nat.le_refl _)
    have hT0 := hTT.below ((Below.refl S w2).alloc (by omega) (.cells #[] 5)) (by omega)
    have hB0 := hB.alloc (by omega) (.cells #[] 5)
    have hz0 : S ≤ (w2.alloc (.cells #[] 5)).heap.size := by rw [← hS]; simp
    clear hTT hB hSz
    go_wp2_with fail
    go_loopw [8, 9, 10] (fun vl iv kv wr => ∃ (out : List UInt8) (i k f : Nat), Bys wr S vl out ∧ iv = .int .i64 i ∧ kv = .int .i64 k ∧ i ≤ u.size ∧ k ≤ v.size ∧ u.size - i < f ∧ out.length ≤ i ∧
      Hid (com (u.size + 1) u.data.toList v.data.toList = out ++ com f (u.data.toList.drop i) (v.data.toList.drop k)) ∧ TT wr O u v ∧ Below O w wr ∧ S ≤ wr.heap.size)
      (fun _ iv _ _ => u.size - (intOf iv).toNat)
    case atStart => exact ⟨[], 0, 0, u.size + 1, hE0, rfl, rfl, Nat.zero_le _, Nat.zero_le _, by omega, Nat.zero_le _, hide (by simp), hT0, hB0, hz0⟩
    case round =>
      obtain ⟨out, i, k, f, hown, rfl, rfl, hi, hk, hf, hlen, hE, hT, hBw, hsz⟩ := hrel
      clear hE0 hT0 hB0 hz0
      obtain ⟨f, rfl⟩ : ∃ f', f = f' + 1 := ⟨f - 1, by omega⟩
      obtain ⟨L, hL⟩ : ∃ L, L = lcsAt u v i k := ⟨_, rfl⟩
      have H00 := hide (fun W hW => rlen_any u v hu hv O i k hi hk (i : Int) (k : Int) rfl rfl L hL W hW)
      by_cases h0 : L = 0
      · have HZ := hide (com_zero (u := u.data.toList.drop i) (v := v.data.toList.drop k) (f + 1) (hL.symm.trans h0))
        have HBK := hide (run_back_own hown)
        have hbk := HBK.out
        subst h0
        clear hL
        go_wp2_with fail
        refine (H00.out _ hT).mono ?_
        rintro e wa ⟨rfl, rfl⟩
        go_wp2
        go_ret2
        refine ⟨?_, hO ▸ hBw⟩
        rw [HD.out, hE.out, HZ.out, List.append_nil]; rfl
      · have hLp : 0 < L := by omega
        have HL := hide hL
        clear hL h0
        go_wp2_with fail
        refine (H00.out _ hT).mono ?_
        rintro e wa ⟨rfl, rfl⟩
        obtain ⟨wo, rfl⟩ : ∃ wo : World, wo = wr := ⟨_, rfl⟩
        go_wp2_with fail
        go_loopw [11, 12] (fun sv av W => ∃ a bst q : Nat, i ≤ a ∧ a ≤ u.size ∧ sv = .int .u8 bst ∧ av = .int .i64 a ∧ Hid (SR u v i k a k bst) ∧ W = wo.drewN q) (fun _ av _ => u.size - (intOf av).toNat)
        case atStart => exact ⟨i, 0, 0, Nat.le_refl _, hi, rfl, rfl, hide (SR.start u v i k), rfl⟩
        case round =>
          obtain ⟨a, bst, q, hia, hau, rfl, rfl, hSR, rfl⟩ := hrel
          by_cases hal : a < u.size
          · have a5 : decide ((a : Int) < (u.size : Int)) = true := decide_eq_true (by omega)
            have a0 : (0 : Int) ≤ (a : Int) := by omega
            have a1 : (a : Int) < (u.size : Int) := by omega
            have w1a : IntKind.i64.wrap ((a : Int) + 1) = (a : Int) + 1 := IntWalk.i64_in _ (by omega)
            go_wp2_with fail
            go_loopw [11, 13] (fun sv bv W => ∃ b bst q : Nat, k ≤ b ∧ b ≤ v.size ∧ sv = .int .u8 bst ∧ bv = .int .i64 b ∧ Hid (SR u v i k a b bst) ∧ W = wo.drewN q) (fun _ bv _ => v.size - (intOf bv).toNat)
            case atStart => exact ⟨k, bst, q, Nat.le_refl _, hk, rfl, rfl, hSR, rfl⟩
            case round =>
              obtain ⟨b, bst, q, hkb, hbv, rfl, rfl, hSR, rfl⟩ := hrel
              by_cases hbl : b < v.size
              · have b5 : decide ((b : Int) < (v.size : Int)) = true := decide_eq_true (by omega)
                have b0 : (0 : Int) ≤ (b : Int) := by omega
                have b1 : (b : Int) < (v.size : Int) := by omega
                have w1b : IntKind.i64.wrap ((b : Int) + 1) = (b : Int) + 1 := IntWalk.i64_in _ (by omega)
                obtain ⟨L2, hL2⟩ : ∃ L2, L2 = lcsAt u v (a + 1) (b + 1) := ⟨_, rfl⟩
                have hL9 : L2 ≤ 256 := by
                  have := lcs_le_left (u.data.toList.drop (a + 1)) (v.data.toList.drop (b + 1))
                  rw [hL2]; unfold lcsAt; simp at this; omega
                have R1 := hide (fun W hW => rlen_any u v hu hv O (a + 1) (b + 1) hal hbl ((a : Int) + 1) ((b : Int) + 1) (by omega) (by omega) L2 hL2 W hW)
                have w1L : IntKind.i64.wrap (1 + (L2 : Int)) = 1 + (L2 : Int) := IntWalk.i64_in _ (by omega)
                have hT2 := hT.drewN q
                have hlf1 : lf u v ((a : Int) + 1) ((b : Int) + 1) = (L2 : Int) := by rw [hL2]; rfl
                have hlf2 : lf u v (i : Int) (k : Int) = (L : Int) := by rw [HL.out]; rfl
                have hLs : L ≤ 256 := by
                  have := lcs_le_left (u.data.toList.drop i) (v.data.toList.drop k)
                  rw [HL.out]; unfold lcsAt; simp at this; omega
                by_cases he : u[a] = v[b]
                · have heb : ((u[a].toNat : Int) == (v[b].toNat : Int)) = true := by rw [he]; simp
                  by_cases hl : 1 + L2 = L
                  · have hlb : (1 + (L2 : Int) == (L : Int)) = true := by rw [beq_iff_eq]; omega
                    have hhit : hit u v i k a b u[a] := ⟨hia, hkb, hal, hbl, rfl, he.symm, by rw [← hL2, ← HL.out]; exact hl⟩
                    have hz : u[a].toNat ≠ 0 := by
                      have := HW.out u[a] (mem_bytes u a hal)
                      intro e
                      have e2 : u[a] = 0 := UInt8.toNat_inj.1 e
                      rw [e2] at this
                      exact absurd this (by decide)
                    by_cases hb0 : bst = 0
                    · have hb1 : ((bst : Int) == 0) = true := by rw [beq_iff_eq]; omega
                      have HM := hide (hSR.out.take_ hal hhit (.inl hb0) hz)
                      clear he hl hL2 hb0
                      go_wp2_with fail
                      go_quiet ((go_at_call 70; exact quiet_add_left (rlen_f u v hu hv O _ _ (by omega) (by omega) _ (hT.drewN _))))
                      go_wp2
                      go_roundw
                      case rel => exact ⟨b + 1, u[a].toNat, q + nq, by omega, hbl, rfl, by go_num, HM, by simp⟩
                      case measure => simp [intOf]; omega
                    · have hb1 : ((bst : Int) == 0) = false := by rw [beq_eq_false_iff_ne]; omega
                      by_cases hbl2 : u[a].toNat < bst
                      · have hb2 : decide (u[a].toNat < bst) = true := decide_eq_true hbl2
                        have HM := hide (hSR.out.take_ hal hhit (.inr hbl2) hz)
                        clear he hl hL2 hb0 hbl2
                        go_wp2_with fail
                        go_quiet ((go_at_call 70; exact quiet_add_left (rlen_f u v hu hv O _ _ (by omega) (by omega) _ (hT.drewN _))))
                        go_wp2
                        go_roundw
                        case rel => exact ⟨b + 1, u[a].toNat, q + nq, by omega, hbl, rfl, by go_num, HM, by simp⟩
                        case measure => simp [intOf]; omega
                      · have hb2 : decide (u[a].toNat < bst) = false := decide_eq_false hbl2
                        have HM := hide (hSR.out.keep hal hb0 hbl2)
                        clear he hl hL2 hb0 hbl2
                        go_wp2_with fail
                        go_quiet ((go_at_call 70; exact quiet_add_left (rlen_f u v hu hv O _ _ (by omega) (by omega) _ (hT.drewN _))))
                        go_wp2
                        go_roundw
                        case rel => exact ⟨b + 1, bst, q + nq, by omega, hbl, rfl, by go_num, HM, by simp⟩
                        case measure => simp [intOf]; omega
                  · have hlb : (1 + (L2 : Int) == (L : Int)) = false := by rw [beq_eq_false_iff_ne]; omega
                    have HM := hide (hSR.out.miss (fun c hh => hl (by obtain ⟨_, _, _, _, _, _, h⟩ := hh; rw [hL2, HL.out]; exact h)))
                    clear he hl hL2
                    go_wp2_with fail
                    go_quiet ((go_at_call 70; exact quiet_add_left (rlen_f u v hu hv O _ _ (by omega) (by omega) _ (hT.drewN _))))
                    go_wp2
                    go_roundw
                    case rel => exact ⟨b + 1, bst, q + nq, by omega, hbl, rfl, by go_num, HM, by simp⟩
                    case measure => simp [intOf]; omega
                · have heb : ((u[a].toNat : Int) == (v[b].toNat : Int)) = false := by
                    rw [beq_eq_false_iff_ne]; intro e; apply he
                    exact UInt8.toNat_inj.1 (by omega)
                  have HM := hide (hSR.out.miss (fun c hh => he (by obtain ⟨_, _, _, _, h1, h2, _⟩ := hh; rw [h1, h2])))
                  clear he hL2
                  go_wp2_with fail
                  go_quiet (fail)
                  go_wp2
                  go_roundw
                  case rel => exact ⟨b + 1, bst, q + nq, by omega, hbl, rfl, by go_num, HM, by simp⟩
                  case measure => simp [intOf]; omega
              · have hbe : v.size ≤ b := by omega
                have b5 : decide ((b : Int) < (v.size : Int)) = false := decide_eq_false (by omega)
                have HM := hide (hSR.out.row hbe)
                go_wp2
                go_roundw
                case rel => exact ⟨a + 1, bst, q, by omega, hal, rfl, by go_num, HM, rfl⟩
                case measure => simp [intOf]; omega
          · have a5 : decide ((a : Int) < (u.size : Int)) = false := decide_eq_false (by omega)
            have hfind : ∃ c : UInt8, bst = c.toNat ∧ lets.find? (good (u.data.toList.drop i) (v.data.toList.drop k)) = some c := by
              rcases hSR.out with ⟨_, h2⟩ | ⟨c, ⟨h1, _⟩, h2, h3⟩
              · exfalso
                obtain ⟨y, hy1, hy2⟩ := good_ex (u := u.data.toList.drop i) (v := v.data.toList.drop k) (fun d hd => HW.out d (List.mem_of_mem_drop hd)) (by have := HL.out; unfold lcsAt at this; omega)
                obtain ⟨m, n, _, _, hh⟩ := good_hit hy2
                exact h2 _ _ _ hh (.inl (by obtain ⟨_, _, h4, _⟩ := hh; omega))
              · exact ⟨c, h1, find_of_hits HW.out h2 (fun a' b' d hd => h3 a' b' d hd (.inl (by obtain ⟨_, _, h4, _⟩ := hd; omega)))⟩
            obtain ⟨c, rfl, hfc⟩ := hfind
            obtain ⟨m, n, hm, hn, hml, hnl, _⟩ := good_m (List.find?_some hfc)
            have HST := hide (com_step f (show lcs (u.data.toList.drop i) (v.data.toList.drop k) ≠ 0 from fun h => by have := HL.out; unfold lcsAt at this; omega) hfc)
            obtain ⟨gm1, gm2⟩ := idx_get hm
            obtain ⟨gn1, gn2⟩ := idx_get hn
            have hml2 : i + m < u.size := by simp at hml; omega
            have hnl2 : k + n < v.size := by simp at hnl; omega
            have GU := hide (show ∀ x (hx : x < u.size), i ≤ x → x < i + m → u[x] ≠ c by
              intro x hx h1 h2 e
              have h3 := gm2 (x - i) (by omega)
              rw [List.getElem?_drop, show i + (x - i) = x by omega, List.getElem?_eq_getElem (by simpa using hx)] at h3
              exact h3 (congrArg some e))
            have GU2 := hide (show u[i + m] = c by
              rw [List.getElem?_drop, List.getElem?_eq_getElem (by simpa using hml2)] at gm1
              exact Option.some.inj gm1)
            have GV := hide (show ∀ x (hx : x < v.size), k ≤ x → x < k + n → v[x] ≠ c by
              intro x hx h1 h2 e
              have h3 := gn2 (x - k) (by omega)
              rw [List.getElem?_drop, show k + (x - k) = x by omega, List.getElem?_eq_getElem (by simpa using hx)] at h3
              exact h3 (congrArg some e))
            have GV2 := hide (show v[k + n] = c by
              rw [List.getElem?_drop, List.getElem?_eq_getElem (by simpa using hnl2)] at gn1
              exact Option.some.inj gn1)
            have HM := hide hm
            have HN := hide hn
            have hownq := hown.drewN q
            have hTq := hT.drewN q
            have hBq := belowN hBw q
            have hszq : S ≤ (wo.drewN q).heap.size := by simpa using hsz
            clear hSR hfc hm hn hml hnl gm1 gm2 gn1 gn2 hown hT hBw hsz
            obtain ⟨wq, hwq⟩ : ∃ wq, wq = wo.drewN q := ⟨_, rfl⟩
            rw [← hwq] at hownq hTq hBq hszq ⊢
            clear hwq
            go_wp2_with (at_builtin; refine wpList_app_byte rfl (.tmp 84) (.tmp 86) rfl S _ _ rfl (hownq.alloc _) wq.heap.size c rfl (heap_alloc_new wq _) (by omega) (by simp; omega) ?_; intro v1 wz hown2 hg1)
            have hbelw : Below S wq wz := below_appb ((Below.refl S wq).alloc hszq _) (by simp; omega) (hownq.alloc _) hg1
            have hT2 := hTq.below hbelw (by have := hHS.out; omega)
            have hB4 := hBq.trans (hbelw.mono (by have := hHS.out; omega))
            have hsz2 : S ≤ wz.heap.size := by have := hbelw.size; omega
            clear hg1 hownq hTq hBq hbelw hszq
            go_loopw [9] (fun iv W => ∃ x q : Nat, i ≤ x ∧ x ≤ i + m ∧ iv = .int .i64 x ∧ W = wz.drewN q) (fun iv _ => i + m - (intOf iv).toNat)
            case atStart => exact ⟨i, 0, Nat.le_refl _, by omega, rfl, rfl⟩
            case round =>
              obtain ⟨x, q, hx1, hx2, rfl, rfl⟩ := hrel
              have x0 : (0 : Int) ≤ (x : Int) := by omega
              have x1 : (x : Int) < (u.size : Int) := by omega
              have x2 : x < u.size := by omega
              by_cases hxe : x < i + m
              · have hne : ((u[x].toNat : Int) != (c.toNat : Int)) = true := by
                  rw [bne_iff_ne]; intro e
                  exact GU.out x x2 hx1 hxe (UInt8.toNat_inj.1 (by omega))
                go_wp2
                go_roundw
                case rel => exact ⟨x + 1, q, by omega, by omega, by go_num, rfl⟩
                case measure => simp [intOf]; omega
              · obtain rfl : x = i + m := by omega
                have hne : ((u[i + m].toNat : Int) != (c.toNat : Int)) = false := by rw [GU2.out]; simp
                go_wp2_with fail
                go_loopw [10] (fun iv W => ∃ x q : Nat, k ≤ x ∧ x ≤ k + n ∧ iv = .int .i64 x ∧ W = wz.drewN q) (fun iv _ => k + n - (intOf iv).toNat)
                case atStart => exact ⟨k, q, Nat.le_refl _, by omega, rfl, rfl⟩
                case round =>
                  obtain ⟨y, q, hy1, hy2, rfl, rfl⟩ := hrel
                  have y0 : (0 : Int) ≤ (y : Int) := by omega
                  have y1 : (y : Int) < (v.size : Int) := by omega
                  have y2 : y < v.size := by omega
                  by_cases hye : y < k + n
                  · have hne : ((v[y].toNat : Int) != (c.toNat : Int)) = true := by
                      rw [bne_iff_ne]; intro e
                      exact GV.out y y2 hy1 hye (UInt8.toNat_inj.1 (by omega))
                    go_wp2
                    go_roundw
                    case rel => exact ⟨y + 1, q, by omega, by omega, by go_num, rfl⟩
                    case measure => simp [intOf]; omega
                  · obtain rfl : y = k + n := by omega
                    have hne : ((v[k + n].toNat : Int) != (c.toNat : Int)) = false := by rw [GV2.out]; simp
                    go_wp2
                    go_roundw
                    case rel =>
                      refine ⟨out ++ [c], i + m + 1, k + n + 1, f, hown2.drewN q, by go_num, by go_num, by omega, by omega, by omega, by simp; omega, hide ?_, hT2.drewN q, belowN hB4 q, by simpa using hsz2⟩
                      rw [hE.out, HST.out, HM.out, HN.out]
                      simp [Nat.add_assoc]
                    case measure => simp [intOf]; omega
  · have h7 : (ckl [u, v] != 0) = true := by simpa using hc
    have HD := hide (show commonV u v = (⟨#[]⟩, ckl [u, v]) by unfold commonV; rw [if_neg hc])
    obtain ⟨z, hz⟩ : ∃ z, z = ckl [u, v] := ⟨_, rfl⟩
    rw [← hz] at h7 HD C0
    have H0 := hide C0
    clear hc hz C0
    go_enter Try.func31, Try.ntmps31
    go_wp2_with fail
    refine (H0.out _).mono ?_
    rintro e w1 ⟨rfl, rfl⟩
    go_wp2
    go_ret2
    exact ⟨by rw [HD.out]; rfl, Below.refl _ _⟩
end Go.Proofs.Ytmajalpmbppkpaa
