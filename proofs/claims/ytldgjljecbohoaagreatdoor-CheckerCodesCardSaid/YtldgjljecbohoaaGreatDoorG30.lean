import Derived.Test.YtldgjljecbohoaaGreatDoorG28
import Derived.Test.YtldgjljecbohoaaGreatDoorG29
import Derived.Maps.RangeWalk
import Derived.Test.YtldgjljecbohoaaGreatDoorG27
import Derived.Test.YtldgjljecbohoaaGreatDoorG4
set_option linter.unusedSimpArgs false
/- decodable.message at the code {0, 01, 10} of the example: the message 010. -/
set_option linter.unusedVariables false
namespace Go.Proofs.YtldgjljecbohoaaGreatDoor
open Go.RowKit Go.Shelf Go.Maps
attribute [local go_sem] Oper.semAt_some
def xA1 : ByteArray := ⟨#[48]⟩
def xA2 : ByteArray := ⟨#[48, 49]⟩
def xA3 : ByteArray := ⟨#[49, 48]⟩
def wA : ByteArray := ⟨#[48, 49, 48]⟩
def xsA : List ByteArray := [xA1, xA2, xA3]
/-- the table of the first messages, the rests that are done, and the next one, round by round -/
def fS : Nat → Tbl
  | 0 => Tbl.put (fun _ => none) [49] xA2
  | 1 => Tbl.put (Tbl.put (fun _ => none) [49] xA2) [48] wA
  | _ => Tbl.put (Tbl.put (Tbl.put (fun _ => none) [49] xA2) [48] wA) [] wA
def dS : Nat → List (List UInt8)
  | 0 => []
  | 1 => [[49]]
  | _ => [[49], [48]]
def kS : Nat → ByteArray
  | 0 => ⟨#[49]⟩
  | 1 => ⟨#[48]⟩
  | _ => ⟨#[]⟩
theorem kS_only (s : Nat) (hs : s ≤ 2) : (∀ y, (fS s y).isSome = true → y ∉ dS s → y = (kS s).data.toList) ∧ (fS s (kS s).data.toList).isSome = true ∧ (kS s).data.toList ∉ dS s := by
  have hk : s = 0 ∨ s = 1 ∨ s = 2 := by omega
  rcases hk with rfl | rfl | rfl
  · refine ⟨fun y h hd => ?_, rfl, by decide⟩
    simp only [fS, Tbl.put] at h
    split at h
    · assumption
    · cases h
  · refine ⟨fun y h hd => ?_, rfl, by decide⟩
    simp only [fS, Tbl.put] at h
    split at h
    · assumption
    · split at h
      · rename_i e; exact absurd (by rw [e]; decide) hd
      · cases h
  · refine ⟨fun y h hd => ?_, rfl, by decide⟩
    simp only [fS, Tbl.put] at h
    split at h
    · assumption
    · split at h
      · rename_i e; exact absurd (by rw [e]; decide) hd
      · split at h
        · rename_i e; exact absurd (by rw [e]; decide) hd
        · cases h
/-- what 'add' makes of a table, over what 'nexts' yields -/
def sfx (u : List UInt8) (n : Nat) : ByteArray := (ofRaw u).extract (u.length - n) u.length
def addN (f : Tbl) (w : ByteArray) (l : List (List UInt8 × Nat)) : Tbl := l.foldl (fun f x => addM f (ofRaw x.1) (w ++ sfx x.1 x.2)) f
theorem addNsn (f : Tbl) (w : ByteArray) (l : List (List UInt8 × Nat)) (x : List UInt8 × Nat) : addN f w (l ++ [x]) = addM (addN f w l) (ofRaw x.1) (w ++ sfx x.1 x.2) := by
  unfold addN; rw [List.foldl_append]; rfl
def addFs (l : List (ByteArray × List UInt8)) : Tbl := l.foldl (fun f x => addM f (ofRaw x.2) x.1) (fun _ => none)
theorem addFs_sn (l : List (ByteArray × List UInt8)) (x : ByteArray × List UInt8) : addFs (l ++ [x]) = addM (addFs l) (ofRaw x.2) x.1 := by
  unfold addFs; rw [List.foldl_append]; rfl
theorem addFs0 : addFs (frs xsA) = fS 0 := rfl
theorem addN0 : addN (fS 0) xA2 (nxs xsA (kS 0)) = fS 1 := rfl
theorem addN1 : addN (fS 1) wA (nxs xsA (kS 1)) = fS 2 := rfl
theorem wpList_next_tbl (w : World) {ops : Array Oper} {rest : List Oper} {o : Oper} {a : Act} {Q : Exit → Act → World → Prop} (hg : o.guard = none) (it : Operand) (hop : o.op = Op.next it false)
    (b r n : Nat) (D : DataW Value) (f : Tbl) (hD : TblD D f) (left : Lit → Bool) (cnt : Nat) (hit : a.eval it = .pointer (some ⟨r, 0, none⟩)) (h : w.ranges Tryz.prog 9 heldS b r n D left cnt)
    (hDone : cnt = 0 → (∀ kl, left kl = false) → wpList Tryz.prog ops Q rest (a.put o.dst (.tuple #[.bool false])) w)
    (hMore : ∀ (x : ByteArray) (w' : World) (cnt' : Nat), x.size ≤ maxLen → (f x.data.toList).isSome = true → left (.string x.data.toList) = true → w'.ranges Tryz.prog 9 heldS b r n D (fun z => left z && !z.sameKey (.string x.data.toList)) cnt' → cnt' < cnt →
      w.grownBy w' (some r) → w'.heap.size = w.heap.size → (Instr.entry (.pointer (some ⟨r, 0, none⟩))).run Tryz.prog w' = .ok (.tuple #[.string x, .string (getS f x.data.toList)]) w' → wpList Tryz.prog ops Q rest (a.put o.dst (.tuple #[.bool true, .string x, .string (getS f x.data.toList)])) w') :
    wpList Tryz.prog ops Q (o :: rest) a w :=
  wpList_next_ranges (α := ByteArray) (β := Value) w hg it hop 9 strLawS heldS Value.string (fun v => v) (fun key kl hkey => by obtain ⟨x, rfl, _⟩ := Maps.keyOf_str Tryz.underlying9 hkey; exact ⟨⟨x.toArray⟩, rfl⟩) (fun v y _ => ⟨v, rfl⟩)
    b r n D left cnt hit h hDone (fun x v kl y w' cnt' hkey hlk hv hat hrg hlt hgr hsz hen => by
      obtain ⟨x', ex, rfl, hml⟩ := Maps.keyOf_str Tryz.underlying9 hkey
      have e : x = ⟨x'.toArray⟩ := by simpa [encStr] using ex
      subst e
      have hhas := has_true_of_atKey hat
      have hsome : (f (⟨x'.toArray⟩ : ByteArray).data.toList).isSome = true := by rw [← (hD.2 _).1]; exact hhas
      have hv2 : v = .string (getS f (⟨x'.toArray⟩ : ByteArray).data.toList) := by
        obtain ⟨z, hz⟩ := Option.isSome_iff_exists.1 hsome
        have h1 := (hD.2 _).2 z hz (.held undef)
        have h2 := hat (.held undef)
        have h3 : y.1 = DataW.held v := by unfold heldS at hv; cases hv; rfl
        have h4 : (⟨x'.toArray⟩ : ByteArray).data.toList = x' := by simp
        rw [h4] at h1 hz ⊢
        rw [h2, h3] at h1
        unfold getS
        rw [hz]
        simpa using h1
      subst hv2
      exact hMore _ w' cnt' (by rw [show (⟨x'.toArray⟩ : ByteArray).size = x'.length from by simp [ByteArray.size]]; exact hml) hsome (by simpa using hlk) (by simpa using hrg) hlt hgr hsz hen)
def Sb (Z k : Nat) : Prop := k < Z + 6 ∧ k ≠ Z + 1
def Sr (Z k : Nat) : Prop := k < Z + 6 ∧ k ≠ Z + 1 ∧ k ≠ Z + 1 + 1 + 1
def msFn (cb : Nat) : Value := .func (.func 169) #[] #[.pointer (some ⟨cb, 0, none⟩)]
structure MsgW (Z : Nat) (A : Option Addr) (c : Nat) (w W : World) : Prop where
  size : W.heap.size = Z + 6
  below : Below Z w W
  best : MapS W (Z + 1) 0 (fun _ => none)
  dn : ∃ D, W.ownsMap Tryz.prog 9 (plainElem (H := Unit) Tryz.prog 4) (Z + 1 + 1 + 1) 0 D ∧ BSet D []
  cb : W.cell? ⟨Z + 1 + 1, 0, none⟩ = some (.map (some (Z + 1)))
  c0 : W.heap[Z]? = some (.cells #[.int .i64 2, .slice A 3 c] 27 (0, 0))
  ca : W.cell? ⟨Z + 1 + 1 + 1 + 1, 0, none⟩ = some (msFn (Z + 1 + 1))
  c5 : W.heap[Z + 5]? = some (.cells #[.int .i64 2, .slice A 3 c] 27 (0, 0))
def msgW (A : Option Addr) (c : Nat) (w : World) : World :=
  (((((w.alloc (.cells #[.int .i64 2, .slice A 3 c] 27)).alloc (.map #[] 0)).alloc (.cells #[.map (some (w.heap.size + 1))] 221)).alloc (.map #[] 0)).alloc
    (.cells #[msFn (w.heap.size + 1 + 1)] 222)).alloc (.cells #[.int .i64 2, .slice A 3 c] 27)
theorem msgW_facts (A : Option Addr) (c : Nat) (w : World) : MsgW w.heap.size A c w (msgW A c w) := by
  have hz : (msgW A c w).heap.size = w.heap.size + 6 := by unfold msgW; simp
  unfold msgW at hz ⊢
  have lift : ∀ (W : World) (o : Obj) (k : Nat) (x : Obj), W.heap[k]? = some x → (W.alloc o).heap[k]? = some x := fun W o k x h => (Below.heap_alloc W o k (Array.getElem?_eq_some_iff.1 h).1).trans h
  have h2 : (msgW A c w).heap[w.heap.size + 1 + 1]? = some (.cells #[.map (some (w.heap.size + 1))] 221 (0, 0)) := lift _ _ _ _ (lift _ _ _ _ (lift _ _ _ _ (heap_at _ _ _ (by simp))))
  have h4 : (msgW A c w).heap[w.heap.size + 1 + 1 + 1 + 1]? = some (.cells #[msFn (w.heap.size + 1 + 1)] 222 (0, 0)) := lift _ _ _ _ (heap_at _ _ _ (by simp))
  have hm := MapS.made (w.alloc (.cells #[.int .i64 2, .slice A 3 c] 27))
  rw [World.size_alloc] at hm
  have hd := World.ownsMap_made (H := Unit) (((w.alloc (.cells #[.int .i64 2, .slice A 3 c] 27)).alloc (.map #[] 0)).alloc (.cells #[.map (some (w.heap.size + 1))] 221)) Tryz.prog 9 (plainElem (H := Unit) Tryz.prog 4)
  rw [World.size_alloc, World.size_alloc, World.size_alloc] at hd
  have ka : ∀ {W : World} {n : Nat} {f : Tbl} (o : Obj), MapS W (w.heap.size + 1) n f → MapS (W.alloc o) (w.heap.size + 1) n f := fun o h => h.kept (World.grownBy_alloc _ _ none) (by simp)
  exact ⟨hz, (((((((Below.refl _ w).alloc (Nat.le_refl _) _).alloc (by simp) _).alloc (by simp; omega) _).alloc (by simp; omega) _).alloc (by simp; omega) _)).alloc (by simp; omega) _,
    ka _ (ka _ (ka _ (ka _ hm))), ⟨_, (hd.alloc _).alloc _, ⟨[], rfl⟩, fun x => rfl⟩, cell_of_one h2, lift _ _ _ _ (lift _ _ _ _ (lift _ _ _ _ (lift _ _ _ _ (lift _ _ _ _ (heap_at _ _ _ rfl))))), cell_of_one h4, heap_at _ _ _ (by simp)⟩
theorem wpIn_loop_stage {F : Fence} {n : Nat} {P : Program} {c : Code} {Q : Exit → Act → World → Prop} {a : Act} {w : World} (I : Nat → Act → World → Prop) (m : Nat) (hm : 0 < m) (h0 : I 0 a w)
    (round : ∀ s a w, s < m → I s a w → c.wpIn F n P (Exit.then (fun a' w' => s + 1 < m ∧ I (s + 1) a' w') Q) a w) : (Code.loop c).wpIn F n P Q a w := by
  refine wpIn_loop_rounds m ?_
  have key : ∀ (k s : Nat) (a : Act) (w : World), s + k = m → s < m → I s a w → Code.roundsIn F n P c Q k a w := by
    intro k
    induction k with
    | zero => intro s a w h1 h2 _; omega
    | succ k ih =>
      intro s a w h1 h2 hI
      rw [roundsIn_succ]
      refine wpIn_mono (round s a w h2 hI) fun e a' w' he => ?_
      cases e with
      | normal => exact ih (s + 1) a' w' (by omega) he.1 he.2
      | _ => exact he
  exact key m 0 a w (by omega) hm h0
set_option maxRecDepth 100000 in
theorem BSet.look {W : World} {B n : Nat} {D : DataW Unit} {S : List (List UInt8)} (hown : W.ownsMap Tryz.prog 9 (plainElem (H := Unit) Tryz.prog 4) B n D) (hB : BSet D S) (x : ByteArray) (hx : x.size ≤ maxLen) :
    (Instr.lookup 152 (.map (some B)) (.string x) false).run Tryz.prog W = .ok (.bool (decide (x.data.toList ∈ S))) W := by
  obtain ⟨vv, ps, hrun, hv⟩ := hown.lookup strLawR Tryz.underlying152 (zeroBool W) (zd := .lit (.bool false)) (plainElem_bool Tryz.underlying4 false) (WideMaps.keyOf_string_mk (P := Tryz.prog) Tryz.underlying9 hx)
  rw [hB.2] at hv
  obtain ⟨z, hz⟩ : ∃ z, decide (x.data.toList ∈ S) = z := ⟨_, rfl⟩
  rw [hz] at hv ⊢
  have : vv = .bool z := by
    unfold plainElem at hv
    rw [Tryz.underlying4] at hv
    cases vv <;> simp at hv
    rw [hv.1]
  rw [hrun, this]
theorem ranges_iter {H : Type} {P : Program} {k : TypeId} {R : Value → Option (DataW H × List MemPlace)} {w : World} {b r n : Nat} {D : DataW H} {left : Lit → Bool} {cnt : Nat} (h : w.ranges P k R b r n D left cnt) : ∃ o, w.heap[r]? = some o ∧ ∀ d, o ≠ Obj.deferred d := by
  obtain ⟨es, clock, since, seen, c0, hb, F, hs, hD, hr, _⟩ := h
  exact ⟨_, hr, fun d e => by cases e⟩
def Done (Z : Nat) (s : Nat) (W : World) : Prop := ∃ D, W.ownsMap Tryz.prog 9 (plainElem (H := Unit) Tryz.prog 4) (Z + 1 + 1 + 1) s D ∧ BSet D (dS s)
theorem Done.kept {Z s : Nat} {W W' : World} {row : Option Nat} (h : Done Z s W) (hg : W.grownBy W' row) (hne : some (Z + 1 + 1 + 1) ≠ row) : Done Z s W' := by
  obtain ⟨D, h1, h2⟩ := h
  exact ⟨D, h1.kept hg hne, h2⟩
theorem Done.look {Z s : Nat} {W : World} (h : Done Z s W) (x : ByteArray) (hx : x.size ≤ maxLen) : (Instr.lookup 152 (.map (some (Z + 1 + 1 + 1))) (.string x) false).run Tryz.prog W = .ok (.bool (decide (x.data.toList ∈ dS s))) W := by
  obtain ⟨D, h1, h2⟩ := h
  exact h2.look h1 x hx
theorem Done.store {Z s : Nat} {W : World} (h : Done Z s W) (hs : s ≤ 2) (x : ByteArray) (hx : x.size ≤ maxLen) :
    ∃ W', (Instr.mapUpdate 152 (.map (some (Z + 1 + 1 + 1))) (.string x) (.bool true)).run Tryz.prog W = .ok () W' ∧ (∃ D, W'.ownsMap Tryz.prog 9 (plainElem (H := Unit) Tryz.prog 4) (Z + 1 + 1 + 1) (s + 1) D ∧ BSet D (dS s ++ [x.data.toList])) ∧ W.grownBy W' (some (Z + 1 + 1 + 1)) := by
  obtain ⟨D, h1, h2⟩ := h
  obtain ⟨W', hrun, hm, hg⟩ := h1.update strLawR Tryz.underlying152 (by unfold maxLen; omega) (WideMaps.keyOf_string_mk (P := Tryz.prog) Tryz.underlying9 hx) (plainElem_bool Tryz.underlying4 true)
  exact ⟨W', hrun, ⟨_, hm, h2.put _⟩, hg⟩
structure InvM (Z : Nat) (W6 : World) (s : Nat) (ds : List Deferred) (W : World) : Prop where
  best : MapS W (Z + 1) (2 * s + 1) (fS s)
  dn : Done Z s W
  mrk : Marks (Z + 6) ds W
  ks : KS (Sr Z) W6 W
theorem InvM.grown {Z s : Nat} {W6 W W' : World} {ds : List Deferred} {row : Option Nat} (h : InvM Z W6 s ds W) (hg : W.grownBy W' row) (hr : ∀ r, row = some r → Z + 6 ≤ r ∧ ∃ o, W.heap[r]? = some o ∧ ∀ d, o ≠ Obj.deferred d) : InvM Z W6 s ds W' := by
  have hne : ∀ k, k < Z + 6 → some k ≠ row := fun k hk e => by have := (hr k e.symm).1; omega
  refine ⟨h.best.kept hg (hne _ (by omega)), h.dn.kept hg (hne _ (by omega)), h.mrk.kept fun D hD hd => (hg.block D (Array.getElem?_eq_some_iff.1 hd).1 fun e => ?_).trans hd, h.ks.grown hg fun k e hs => hne k hs.1 e.symm⟩
  obtain ⟨_, o, ho, hdd⟩ := hr D e.symm
  rw [hd] at ho
  cases ho
  exact hdd _ rfl
theorem fS_len {s : Nat} {y : List UInt8} (hs : s ≤ 2) (h : (fS s y).isSome = true) : y.length ≤ 1 := by
  have hk : s = 0 ∨ s = 1 ∨ s = 2 := by omega
  rcases hk with rfl | rfl | rfl <;> (simp only [fS, Tbl.put] at h; (repeat' split at h) <;> first | (rename_i e; rw [e]; decide) | cases h)
def S3 (Z M k : Nat) : Prop := Sb Z k ∨ k = M ∨ k = M + 1 ∨ k = M + 1 + 1
structure NextM (A : Option Addr) (c : Nat) (k wv : ByteArray) (Z s M : Nat) (ds : List Deferred) (W6 W : World) : Prop where
  size : W.heap.size = M + 3
  base : Z + 6 ≤ M
  best : MapS W (Z + 1) (2 * s + 1) (fS s)
  dn : Done Z (s + 1) W
  mrk : Marks (Z + 6) ds W
  ks : KS (Sr Z) W6 W
  wc : W.cell? ⟨M, 0, none⟩ = some (.string wv)
  c0 : W.heap[M + 1]? = some (.cells #[.int .i64 2, .slice A 3 c] 27 (0, 0))
  c1 : W.heap[M + 1 + 1]? = some (.cells #[.string k] 9 (0, 0))
theorem nextM_facts (A : Option Addr) (c : Nat) (k wv : ByteArray) (Z s M : Nat) (ds : List Deferred) (W6 W2 : World) (hb : Z + 6 ≤ M) (hM : W2.heap.size = M) (h1 : MapS W2 (Z + 1) (2 * s + 1) (fS s)) (h2 : Done Z (s + 1) W2) (h3 : Marks (Z + 6) ds W2) (h4 : KS (Sr Z) W6 W2) :
    NextM A c k wv Z s M ds W6 (((W2.alloc (Obj.cells #[Value.string wv] 9)).alloc (Obj.cells #[Value.int IntKind.i64 2, Value.slice A 3 c] 27)).alloc (Obj.cells #[Value.string k] 9)) := by
  subst hM
  have lift : ∀ (W : World) (o : Obj) (k : Nat) (x : Obj), W.heap[k]? = some x → (W.alloc o).heap[k]? = some x := fun W o k x h => (Below.heap_alloc W o k (Array.getElem?_eq_some_iff.1 h).1).trans h
  have hg : W2.grownBy (((W2.alloc (Obj.cells #[Value.string wv] 9)).alloc (Obj.cells #[Value.int IntKind.i64 2, Value.slice A 3 c] 27)).alloc (Obj.cells #[Value.string k] 9)) none :=
    ((World.grownBy_alloc _ _ none).trans (World.grownBy_alloc _ _ none)).trans (World.grownBy_alloc _ _ none)
  exact ⟨by simp, hb, h1.kept hg (by simp), h2.kept hg (by simp), h3.kept fun D _ hD => lift _ _ _ _ (lift _ _ _ _ (lift _ _ _ _ hD)), h4.grown hg (fun _ e => by cases e),
    cell_of_one (lift _ _ _ _ (lift _ _ _ _ (heap_at _ _ _ rfl))), lift _ _ _ _ (heap_at _ _ _ (by simp)), heap_at _ _ _ (by simp)⟩
def I3 (Z M s : Nat) (wv : ByteArray) (ds : List Deferred) (Wn : World) {k : ByteArray} (pre : List (NxsT xsA k)) (W : World) : Prop := MapS W (Z + 1) (2 * s + 1 + pre.length) (addN (fS s) wv (pre.map Subtype.val)) ∧ Marks (Z + 6) ds W ∧ KS (S3 Z M) Wn W
theorem I3.add {Z M s : Nat} {wv : ByteArray} {ds : List Deferred} {Wn : World} {k : ByteArray} {pre : List (NxsT xsA k)} {y : NxsT xsA k} {W W' : World} (hb : Z + 6 ≤ M) (hz : Wn.heap.size = M + 3) (hmk : Marks (Z + 6) ds W) (hks : KS (S3 Z M) Wn W)
    (ha : MapS W' (Z + 1) (2 * s + 1 + pre.length + 1) (addM (addN (fS s) wv (pre.map Subtype.val)) (ofRaw y.1.1) (wv ++ sfx y.1.1 y.1.2))) (hg : W.grownBy W' (some (Z + 1))) : KeepsFrom Wn.heap.size W W' ∧ KS (S3 Z M) W W' ∧ I3 Z M s wv ds Wn (pre ++ [y]) W' := by
  have hk2 : KS (S3 Z M) W W' := (KS.refl _ _).grown hg (fun k e h => by cases e; rcases h with h | h | h | h; exact h.2 rfl; omega; omega; omega)
  refine ⟨KeepsFrom.of_grownBy hg (fun j e => by cases e; omega), hk2, ?_, hmk.kept fun D hD hd => (hg.block D (Array.getElem?_eq_some_iff.1 hd).1 (by simp; omega)).trans hd, hks.trans hk2⟩
  rw [List.map_append, List.map_cons, List.map_nil, addNsn, List.length_append]
  exact ha
/-- what the inner loop has found -/
def PickP (s : Nat) (left : Lit → Bool) (next : ByteArray) (found : Bool) : Prop :=
  (found = false → next = ⟨#[]⟩ ∧ ∀ y, (fS s y).isSome = true → left (.string y) = false → y ∈ dS s) ∧ (found = true → (fS s next.data.toList).isSome = true ∧ next.data.toList ∉ dS s)
theorem PickP.skip {s : Nat} {left : Lit → Bool} {next : ByteArray} {found : Bool} {x : List UInt8} (h : PickP s left next found) (hx : found = false → x ∈ dS s) : PickP s (fun z => left z && !z.sameKey (.string x)) next found := by
  refine ⟨fun hf => ⟨(h.1 hf).1, fun y hy hl => ?_⟩, h.2⟩
  by_cases e : y = x
  · rw [e]; exact hx hf
  · refine (h.1 hf).2 y hy ?_
    simpa [Lit.sameKey, e] using hl
theorem PickP.take {s : Nat} {left : Lit → Bool} {x : ByteArray} (h1 : (fS s x.data.toList).isSome = true) (h2 : x.data.toList ∉ dS s) : PickP s left x true := ⟨fun h => (nomatch h), fun _ => ⟨h1, h2⟩⟩
theorem PickP.end_ {s : Nat} (hs : s ≤ 2) {left : Lit → Bool} {next : ByteArray} {found : Bool} (h : PickP s left next found) (hl : ∀ kl, left kl = false) : found = true ∧ next = kS s := by
  obtain ⟨k1, k2, k3⟩ := kS_only s hs
  have hf : found = true := by
    cases found with
    | true => rfl
    | false => exact absurd ((h.1 rfl).2 _ k2 (hl _)) k3
  obtain ⟨a, b⟩ := h.2 hf
  refine ⟨hf, ?_⟩
  have := k1 _ a b
  cases next with | mk a => cases hk : kS s with | mk c => rw [hk] at this; simpa using Array.toList_inj.1 this
def IM1 (Z : Nat) (W6 : World) (pre : List (FrsT xsA)) (W : World) : Prop := MapS W (Z + 1) pre.length (addFs (pre.map Subtype.val)) ∧ KS (Sb Z) W6 W
set_option maxRecDepth 100000 in
set_option maxHeartbeats 4000000 in
theorem message_A (A : Option Addr) (cap : Nat) (w : World) (hR : RowT w A xsA) :
    Calls Tryz.prog 92 #[.agg #[.int .i64 2, .slice A 3 cap]] w fun e w' => e = .returned (.tuple #[.string wA, .bool true]) ∧ Below w.heap.size w w' := by
  refine (callsIn_wide (n := 3)).1 ?_
  have hmm := @run_makeMap Tryz.prog
  have hsf : ∀ (a : Addr) (m : Mode) (fn : Fn) (first cap : Array Value) (W : World), (store a (.func fn first cap) m).run Tryz.prog W = stored Tryz.prog W a (.func fn first cap) m := fun a m fn first cap W => run_store Tryz.prog W a _ m rfl
  obtain ⟨Z, hZ⟩ : ∃ Z, w.heap.size = Z := ⟨_, rfl⟩
  have HF := hide (fun W => callsIn_wide (n := 2).2 (firsts_in 2 A 3 cap W))
  refine callsIn_of_wp_marks Tryz.func92 rfl trivial ?_ rfl
  simp only [Tryz.ntmps92, List.size_toArray, List.length_cons, List.length_nil, Nat.reduceAdd, Nat.reduceSub, Array.replicate_succ, Array.replicate_zero, List.push_toArray, List.append_toArray, List.nil_append, List.cons_append]
  have hW := msgW_facts A cap w
  rw [hZ] at hW
  gi_wp2_with fail
  refine ⟨trivial, ?_⟩
  (with_reducible refine (HF.out _).mono ?_)
  rintro e w6 ⟨rfl, rfl⟩
  have hsz : (((((w.alloc (.cells #[.int .i64 2, .slice A 3 cap] 27)).alloc (.map #[] 0)).alloc (.cells #[.map (some (Z + 1))] 221)).alloc (.map #[] 0)).alloc
    (.cells #[msFn (Z + 1 + 1)] 222)).heap.size = Z + 5 := by simp [hZ]
  unfold msFn at hsz
  rw [hsz]
  unfold msgW msFn at hW
  rw [hZ] at hW
  generalize ((((((w.alloc (Obj.cells #[Value.int IntKind.i64 2, Value.slice A 3 cap] 27)).alloc (Obj.map #[] 0)).alloc (Obj.cells #[Value.map (some (Z + 1))] 221)).alloc (Obj.map #[] 0)).alloc
    (Obj.cells #[Value.func (Fn.func 169) #[] #[Value.pointer (some { block := Z + 1 + 1, off := 0 })]] 222)).alloc (Obj.cells #[Value.int IntKind.i64 2, Value.slice A 3 cap] 27)) = W6 at hW ⊢
  clear hsz hmm hsf HF
  gi_wp2
  have HRow := hide (show ∀ W, KS (Sr Z) W6 W → RowT W A xsA from fun W hW7 => by
    intro h0
    obtain ⟨b, o, hAb, hbl, hc⟩ := hR h0
    have hB : Below Z w W := hW.below.trans (hW7.mono (T := fun k => k < Z) (fun k hk => ⟨by omega, by omega, by omega⟩) |>.below (fun k hk => hk) (by have := hW.size; omega))
    rw [hZ] at hbl
    refine ⟨b, o, hAb, Nat.lt_of_lt_of_le (by omega) hB.size, fun k hk => ?_⟩
    exact (hB.cell (p := ⟨b, o + k, none⟩) hbl).trans (hc k hk))
  have hsz6 := hW.size
  have hSb : ∀ k, W6.heap.size ≤ k → ¬ Sb Z k := fun k hk h => by have := h.1; omega
  have hrb : ∀ k, Sr Z k → Sb Z k := fun k h => ⟨h.1, h.2.1⟩
  have HW := hide hW
  have hb6 := hW.best
  have hca6 := hW.ca
  have hcb6 := hW.cb
  have hc5 := hW.c5
  clear hW
  refine wpIn_rangeFunc_ownH rfl (by omega) (gf := 178) (lb := #[.pointer (some ⟨Z + 5, 0, none⟩)]) rfl trivial (enters_of Tryz.func178 (by kernel_rfl) rfl)
    (firstsf_stops 2 (by omega) (Z + 5) cap xsA A (by decide) (KS (Sb Z)) (KS.refl _) (fun h k => h.trans k) W6
      (fun W W' hW hK => ?k1))
    (fun h k => h.trans k) (ks_b hSb) (Below.refl _ _) (fun _ => rfl)
    (IM1 Z W6)
    (fun _ _ _ => False)
    (OwnFrom.and (fun s X Y row hs hg hr => ?own1) (ownFrom_ks (fun k h1 _ => hSb k h1) (Nat.le_refl _)))
    (fun _ _ _ _ _ hs _ _ => hs)
    ⟨hb6, KS.refl _ _⟩
    (fun x a' W => a' = { tmps := #[.agg #[.int .i64 2, .slice A 3 cap], .pointer (some ⟨Z, 0, none⟩), .string ⟨#[]⟩, .bool false, .pointer (some ⟨Z + 1 + 1, 0, none⟩), .map (some (Z + 1 + 1 + 1)), .pointer (some ⟨Z + 1 + 1 + 1 + 1, 0, none⟩), .string x.1.1, .string ⟨x.1.2.toArray⟩, undef, undef, undef, undef, undef, undef, undef, .map (some (Z + 1)), .map (some (Z + 1 + 1 + 1)), .func (.func 169) #[] #[.pointer (some ⟨Z + 1 + 1, 0, none⟩)], .agg #[.int .i64 2, .slice A 3 cap], .func (.func 178) #[] #[.pointer (some ⟨Z + 5, 0, none⟩)], .string x.1.1, .string ⟨x.1.2.toArray⟩, undef, undef, undef, undef, undef, undef, undef, undef, undef, undef, undef, undef, undef, undef, undef, undef, undef, undef, undef, undef, undef, undef, undef, undef, undef, undef, undef, undef, undef, undef, undef, undef, undef, undef, undef, undef, undef, undef, undef, undef, undef, undef, undef, undef, undef, undef, undef, undef, undef, undef, undef, undef, undef, undef, undef, undef, undef, undef, undef], defers := [] })
    ?hax ?assign ?body ?done ?stop
  case k1 =>
    have h1 : KS (Sb Z) W6 W' := (KS.of_below hW (fun k hk => by have := hk.1; omega)).trans hK
    refine ⟨HRow.out _ (h1.mono hrb), ?_⟩
    exact h1.cell (p := ⟨Z + 5, 1, none⟩) (by rw [cell_of_row W6 _ _ _ _ _ hc5]; rfl) ⟨by show Z + 5 < _; omega, by show Z + 5 ≠ _; omega⟩
  case own1 =>
    exact hs.kept hg (fun e => by have := (hr _ e.symm).1; omega)
  case hax =>
    intro x a' s X Y row hs hg hrow
    exact hs
  case assign =>
    rintro l pre x W K hI hK
    simp only [encF] at hK ⊢
    gi_wp2
    exact hK _ _ (KeepsFrom.refl _ _) (KS.refl _ _) hI rfl
  case body =>
    rintro l pre x a' W _ _ ⟨hm, hks⟩ rfl hlen
    have hca := hks.cell hca6 ⟨by show Z + 1 + 1 + 1 + 1 < _; omega, by show Z + 1 + 1 + 1 + 1 ≠ _; omega⟩
    have hcb := hks.cell hcb6 ⟨by show Z + 1 + 1 < _; omega, by show Z + 1 + 1 ≠ _; omega⟩
    have hmem : x.1 = (xA2, [49]) := List.mem_singleton.1 (show x.1 ∈ [(xA2, [49])] from x.2)
    have hlen1 : pre.length < 1 := hlen
    have HAdd := hide (msAdd_any (ofRaw x.1.2) x.1.1 (by rw [hmem]; decide) (Z + 1) (Z + 1 + 1) pre.length _ W hm (by omega) hcb (by omega))
    unfold ofRaw at HAdd
    unfold msFn at hca
    have HI2 := hide (show ∀ W', MapS W' (Z + 1) (pre.length + 1) (addM (addFs (pre.map Subtype.val)) (ofRaw x.1.2) x.1.1) → W.grownBy W' (some (Z + 1)) → KeepsFrom W6.heap.size W W' ∧ KS (Sb Z) W W' ∧ IM1 Z W6 (pre ++ [x]) W' from fun W' h1 hg => by
      have hk2 : KS (Sb Z) W W' := (KS.refl _ _).grown hg (fun k e h => by cases e; exact h.2 rfl)
      refine ⟨KeepsFrom.of_grownBy hg (fun j e => by cases e; omega), hk2, ?_, hks.trans hk2⟩
      rw [List.map_append, List.map_cons, List.map_nil, addFs_sn, List.length_append]
      exact h1)
    clear hm hks hmem hlen1 hcb
    gi_wp2_with fail
    refine ⟨trivial, ?_⟩
    (with_reducible refine (CallsIn.inRound l (callsIn_wide.2 HAdd.out)).mono ?_)
    rintro e w' ⟨rfl, ha, hg⟩
    have HR2 := hide (HI2.out w' ha hg)
    clear ha hg HAdd HI2
    gi_wp2
    exact HR2.out
  case done =>
    rintro D ys W hD hys ⟨hm, hks⟩ hK
    rw [hys, addFs0] at hm
    have hM : Marks (Z + 6) [mark D] W := Marks.one (by omega) hK
    have hI0 : InvM Z W6 0 [mark D] W := ⟨hm.mono (by rw [← List.length_map (f := Subtype.val), hys]; decide), by
      obtain ⟨Dd, h1, h2⟩ := HW.out.dn
      refine ⟨Dd, ?_, h2⟩
      obtain ⟨es, clock, hb, F, hs, rfl⟩ := h1
      exact ⟨es, clock, (hks.block _ (Array.getElem?_eq_some_iff.1 hb).1 ⟨by omega, by omega⟩).trans hb, F, hs, rfl⟩, hM, hks.mono hrb⟩
    clear hm hM hks hys hK hb6 hcb6 hc5
    gi_wp2
    refine wpIn_loop_stage (fun s a' W => ∃ u9 u10 u11 u12 u13 u27 u28 u29 u30 u31 u32 u33 u34 u35 u36 u37 u38 u39 u40 u41 u42 u43 u44 u45 u46 u47 u48 u49 u50 u51 u52 u53 u54 u55 u56 u57 u58 u59 u60 u61 u62 u63 u64 u65 u66 u67 u68 ds, InvM Z W6 s ds W ∧ a' = { tmps := #[.agg #[.int .i64 2, .slice A 3 cap], .pointer (some ⟨Z, 0, none⟩), .string ⟨#[]⟩, .bool false, .pointer (some ⟨Z + 1 + 1, 0, none⟩), .map (some (Z + 1 + 1 + 1)), .pointer (some ⟨Z + 1 + 1 + 1 + 1, 0, none⟩), undef, undef, u9, u10, u11, u12, u13, undef, undef, .map (some (Z + 1)), .map (some (Z + 1 + 1 + 1)), .func (.func 169) #[] #[.pointer (some ⟨Z + 1 + 1, 0, none⟩)], .agg #[.int .i64 2, .slice A 3 cap], .func (.func 178) #[] #[.pointer (some ⟨Z + 5, 0, none⟩)], undef, undef, undef, undef, undef, undef, u27, u28, u29, u30, u31, u32, u33, u34, u35, u36, u37, u38, u39, u40, u41, u42, u43, u44, u45, u46, u47, u48, u49, u50, u51, u52, u53, u54, u55, u56, u57, u58, u59, u60, u61, u62, u63, u64, u65, u66, u67, u68, undef, undef, undef, undef, undef, undef, undef, undef, undef, undef, undef, undef, undef], defers := ds }) 3 (by omega) ⟨_, _, _, _, _, _, _, _, _, _, _, _, _, _, _, _, _, _, _, _, _, _, _, _, _, _, _, _, _, _, _, _, _, _, _, _, _, _, _, _, _, _, _, _, _, _, _, _, hI0, rfl⟩ ?_
    rintro s a' wr hs3 ⟨u9, u10, u11, u12, u13, u27, u28, u29, u30, u31, u32, u33, u34, u35, u36, u37, u38, u39, u40, u41, u42, u43, u44, u45, u46, u47, u48, u49, u50, u51, u52, u53, u54, u55, u56, u57, u58, u59, u60, u61, u62, u63, u64, u65, u66, u67, u68, ds, hI, rfl⟩
    clear hI0
    dsimp only
    have hs : s ≤ 2 := by omega
    have hcb : wr.cell? ⟨Z + 1 + 1, 0, none⟩ = some (.map (some (Z + 1))) := hI.ks.cell HW.out.cb ⟨by show Z + 1 + 1 < _; omega, by show Z + 1 + 1 ≠ _; omega, by show Z + 1 + 1 ≠ _; omega⟩
    obtain ⟨Db, hown, hTD⟩ := hI.best
    obtain ⟨N, hN⟩ : ∃ N, wr.heap.size = N := ⟨_, rfl⟩
    have hZN : Z + 6 ≤ N := by have := hI.ks.size; omega
    have HI := hide hI
    have HTD := hide hTD
    clear hI hTD
    gi_wp2_with (gi_at_range; refine wpListIn_range_own _ rfl _ 221 rfl 9 9 strLawS Tryz.underlyingSmap _ (Z + 1) (2 * s + 1) Db rfl hown ?_; intro w0 hrg0 hg0 hs0)
    rw [hN] at hrg0 hs0 ⊢
    have HI0 := hide (HI.out.grown hg0 (fun r e => by cases e))
    clear hg0 HI
    go_frame
    gi_loopw [9, 10] (fun nv fv wv => ∃ (left : Lit → Bool) (cnt : Nat) (next : ByteArray) (found : Bool), nv = .string next ∧ fv = .bool found ∧ wv.ranges Tryz.prog 9 heldS (Z + 1) N (2 * s + 1) Db left cnt ∧ Hid (PickP s left next found) ∧ Hid (InvM Z W6 s ds wv)) (fun _ _ wv => wv.rangeLeft (Z + 1) N)
    case atStart => exact ⟨_, _, ⟨#[]⟩, false, rfl, rfl, hrg0, hide ⟨fun _ => ⟨rfl, fun y hy hl => by rw [(HTD.out.2 y).1, hy] at hl; cases hl⟩, fun h => by cases h⟩, HI0⟩
    case round =>
      obtain ⟨left, cnt, next, found, rfl, rfl, hrg, HP, HI⟩ := hrel
      clear hrg0 HI0 hs0 hcb hown
      have hle0 := hrg.left_eq
      refine wpIn_wide.2 ?_
      go_wp2_with (at_next; refine wpList_next_tbl _ rfl _ rfl (Z + 1) N (2 * s + 1) Db (fS s) HTD.out left cnt rfl hrg ?_ ?_)
      · intro hc0 hl0
        obtain ⟨rfl, rfl⟩ := HP.out.end_ hs hl0
        have hI := HI.out
        have hcb : wr.cell? ⟨Z + 1 + 1, 0, none⟩ = some (.map (some (Z + 1))) := hI.ks.cell HW.out.cb ⟨by show Z + 1 + 1 < _; omega, by show Z + 1 + 1 ≠ _; omega, by show Z + 1 + 1 ≠ _; omega⟩
        have hksz : (kS s).size ≤ 1 := by have := fS_len hs (kS_only s hs).2.1; simpa using this
        have hget := hI.best.get (kS s) (by unfold maxLen; omega)
        clear hl0 hc0 hrg hle0
        by_cases hs2 : s = 2
        · subst hs2
          have hke : (kS 2).toList.isEmpty = true := by rw [ByteArray.toList_eq]; rfl
          rw [show getS (fS 2) (kS 2).data.toList = wA from rfl] at hget
          obtain ⟨k, hk⟩ : ∃ k, kS 2 = k := ⟨_, rfl⟩
          rw [hk] at hke hget ⊢
          have HM2 := hide hI.mrk
          have HK2 := hide hI.ks
          clear hk hksz HI hI HP
          go_wp2
          refine wpIn_wide.2 ?_
          go_wp2
          refine leaves_marks (base := Z + 6) HM2.out fun w9 hSh => ⟨_, results_tmp2 rfl _ _ _, rfl, ?_⟩
          rw [hZ]
          exact hSh.below (HW.out.below.trans ((HK2.out.mono (T := fun k => k < Z) (fun k hk => ⟨by omega, by omega, by omega⟩)).below (fun k hk => hk) (by omega))) (by omega)
        · have hke : (kS s).toList.isEmpty = false := by
            have hk : s = 0 ∨ s = 1 := by omega
            rcases hk with rfl | rfl <;> (rw [ByteArray.toList_eq]; rfl)
          have hstep : addN (fS s) (getS (fS s) (kS s).data.toList) (nxs xsA (kS s)) = fS (s + 1) ∧ (nxs xsA (kS s)).length ≤ 2 ∧ (∀ y ∈ nxs xsA (kS s), y.1.length ≤ 1 ∧ y.2 ≤ y.1.length) ∧ (getS (fS s) (kS s).data.toList).size ≤ 3 := by
            have hk : s = 0 ∨ s = 1 := by omega
            rcases hk with rfl | rfl
            · exact ⟨addN0, by decide, by decide, by decide⟩
            · exact ⟨addN1, by decide, by decide, by decide⟩
          have hdS : dS (s + 1) = dS s ++ [(kS s).data.toList] := by
            have hk : s = 0 ∨ s = 1 := by omega
            rcases hk with rfl | rfl <;> rfl
          obtain ⟨W2, hrun2, hdn2, hg2⟩ := hI.dn.store hs (kS s) (by unfold maxLen; omega)
          rw [← hdS] at hdn2
          obtain ⟨k, hk⟩ : ∃ k, kS s = k := ⟨_, rfl⟩
          rw [hk] at hke hget hrun2 hstep hksz ⊢
          have hb2 := hI.best.kept hg2 (by simp <;> omega)
          have hm2 : Marks (Z + 6) ds W2 := hI.mrk.kept fun D hD hd => (hg2.block D (Array.getElem?_eq_some_iff.1 hd).1 (by simp <;> omega)).trans hd
          have hk2 : KS (Sr Z) W6 W2 := hI.ks.grown hg2 fun k e h => by cases e; exact h.2.2 rfl
          have hcb2 := hg2.cell hcb (by simp <;> omega)
          have hget2 := hb2.get k (by unfold maxLen; omega)
          obtain ⟨wv, hwv⟩ : ∃ wv, getS (fS s) k.data.toList = wv := ⟨_, rfl⟩
          rw [hwv] at hget hget2 hstep
          obtain ⟨M, hM⟩ : ∃ M, W2.heap.size = M := ⟨_, rfl⟩
          have hZM : Z + 6 ≤ M := by have := hk2.size; omega
          have hd0 : W2.cell? ⟨Z, 0, none⟩ = some (.int .i64 2) := hk2.cell (p := ⟨Z, 0, none⟩) (by rw [cell_of_row W6 _ _ _ _ _ HW.out.c0]; rfl) ⟨by show Z < _; omega, by show Z ≠ _; omega, by show Z ≠ _; omega⟩
          have hd1 : W2.cell? ⟨Z, 1, none⟩ = some (.slice A 3 cap) := hk2.cell (p := ⟨Z, 1, none⟩) (by rw [cell_of_row W6 _ _ _ _ _ HW.out.c0]; rfl) ⟨by show Z < _; omega, by show Z ≠ _; omega, by show Z ≠ _; omega⟩
          have hd0n := (World.cell?_alloc_lt W2 (Obj.cells #[Value.string wv] 9) ⟨Z, 0, none⟩ (by show Z < _; omega)).trans hd0
          have hd1n := (World.cell?_alloc_lt W2 (Obj.cells #[Value.string wv] 9) ⟨Z, 1, none⟩ (by show Z < _; omega)).trans hd1
          have HNx := hide (fun W => callsIn_wide (n := 2).2 (nexts_in 2 A 3 cap k W))
          have HB2 := hide hb2
          have HM2 := hide hm2
          have HK2 := hide hk2
          have HD2 := hide hdn2
          have HStep := hide hstep
          clear hk HI hI HP hg2 hb2 hm2 hk2 hdn2 hdS hwv hstep hd0 hd1
          go_wp2
          gi_wp2_with fail
          refine ⟨trivial, ?_⟩
          (with_reducible refine (HNx.out _).mono ?_)
          rintro e w7 ⟨rfl, rfl⟩
          have hNF := nextM_facts A cap k wv Z s M ds W6 W2 hZM hM HB2.out HD2.out HM2.out HK2.out
          rw [show (W2.alloc (Obj.cells #[Value.string wv] 9)).heap.size = M + 1 by simp [hM]]
          generalize ((W2.alloc (Obj.cells #[Value.string wv] 9)).alloc (Obj.cells #[Value.int IntKind.i64 2, Value.slice A 3 cap] 27)).alloc (Obj.cells #[Value.string k] 9) = Wn at hNF ⊢
          clear hM HB2 HM2 HK2 HD2 HNx hd0n hd1n hcb2 hget hget2 hrun2 hcb hke
          gi_wp2
          have hs3' : ∀ k, Wn.heap.size ≤ k → ¬ S3 Z M k := fun k hk h => by
            have := hNF.size
            have := hNF.base
            rcases h with h | h | h | h
            · have := h.1; omega
            · omega
            · omega
            · omega
          have hcaN : Wn.cell? ⟨Z + 1 + 1 + 1 + 1, 0, none⟩ = some (msFn (Z + 1 + 1)) := hNF.ks.cell HW.out.ca ⟨by show Z + 1 + 1 + 1 + 1 < _; omega, by show Z + 1 + 1 + 1 + 1 ≠ _; omega, by show Z + 1 + 1 + 1 + 1 ≠ _; omega⟩
          have hcbN : Wn.cell? ⟨Z + 1 + 1, 0, none⟩ = some (.map (some (Z + 1))) := hNF.ks.cell HW.out.cb ⟨by show Z + 1 + 1 < _; omega, by show Z + 1 + 1 ≠ _; omega, by show Z + 1 + 1 ≠ _; omega⟩
          refine wpIn_rangeFunc_ownH rfl (by omega) (gf := 180) (lb := #[.pointer (some ⟨M + 1, 0, none⟩), .pointer (some ⟨M + 1 + 1, 0, none⟩)]) rfl trivial (enters_of Tryz.func180 (by kernel_rfl) rfl)
            (nextsf_stops 2 (by omega) (M + 1) (M + 1 + 1) cap xsA k A (by decide) (KS (S3 Z M)) (KS.refl _) (fun h k => h.trans k) Wn
              (fun W W' hW hK => ?k2))
            (fun h k => h.trans k) (ks_b hs3') (Below.refl _ _) (fun _ => rfl)
            (I3 Z M s wv ds Wn)
            (fun _ _ _ => False)
            (OwnFrom.and (fun S X Y row hS hg hr => ?own2) (OwnFrom.and (ownFrom_marks hNF.mrk (Nat.le_refl _)) (ownFrom_ks (fun k h1 _ => hs3' k h1) (Nat.le_refl _))))
            (fun _ _ _ _ _ hs _ _ => hs)
            ⟨hNF.best, hNF.mrk, KS.refl _ _⟩
            (fun y a' W => a' = { tmps := #[.agg #[.int .i64 2, .slice A 3 cap], .pointer (some ⟨Z, 0, none⟩), .string ⟨#[]⟩, .bool false, .pointer (some ⟨Z + 1 + 1, 0, none⟩), .map (some (Z + 1 + 1 + 1)), .pointer (some ⟨Z + 1 + 1 + 1 + 1, 0, none⟩), undef, undef, .string k, .bool true, u11, u12, .pointer (some ⟨M, 0, none⟩), .string ⟨y.1.1.toArray⟩, .int .i64 (y.1.2 : Int), .map (some (Z + 1)), .map (some (Z + 1 + 1 + 1)), .func (.func 169) #[] #[.pointer (some ⟨Z + 1 + 1, 0, none⟩)], .agg #[.int .i64 2, .slice A 3 cap], .func (.func 178) #[] #[.pointer (some ⟨Z + 5, 0, none⟩)], undef, undef, undef, undef, undef, undef, .map (some (Z + 1)), .pointer (some ⟨N, 0, none⟩), .tuple #[.bool false], .bool false, u31, u32, u33, u34, u35, u36, u37, u38, u39, u40, u41, u42, u43, u44, u45, u46, u47, u48, u49, u50, .bool true, .bool false, .bool false, .string k, .bool false, .bool false, u57, u58, u59, u60, .map (some (Z + 1 + 1 + 1)), .string k, .map (some (Z + 1)), .string k, .string wv, .agg #[.int .i64 2, .slice A 3 cap], .string k, .func (.func 180) #[] #[.pointer (some ⟨M + 1, 0, none⟩), .pointer (some ⟨M + 1 + 1, 0, none⟩)], .string ⟨y.1.1.toArray⟩, .int .i64 (y.1.2 : Int), undef, undef, undef, undef, undef, undef, undef, undef, undef, undef, undef], defers := [] })
            ?hax2 ?assign2 ?body2 ?done2 ?stop2
          case k2 =>
            have h1 : KS (S3 Z M) Wn W' := (KS.of_below hW (fun k hk => Nat.lt_of_not_le fun h => hs3' k h hk)).trans hK
            refine ⟨HRow.out _ (hNF.ks.trans (h1.mono fun k hk => .inl (hrb k hk))), ?_, ?_⟩
            · exact h1.cell (p := ⟨M + 1, 1, none⟩) (by rw [cell_of_row Wn _ _ _ _ _ hNF.c0]; rfl) (.inr (.inr (.inl rfl)))
            · exact h1.cell (p := ⟨M + 1 + 1, 0, none⟩) (by rw [cell_of_row Wn _ _ _ _ _ hNF.c1]; rfl) (.inr (.inr (.inr rfl)))
          case own2 =>
            exact hS.kept hg (fun e => by have := (hr _ e.symm).1; have := hNF.size; have := hNF.base; omega)
          case hax2 =>
            intro y a' s X Y row hs hg hrow
            exact hs
          case assign2 =>
            rintro l pre y W K hI hK
            simp only [encN] at hK ⊢
            gi_wp2
            exact hK _ _ (KeepsFrom.refl _ _) (KS.refl _ _) hI rfl
          case body2 =>
            rintro l pre y a' W _ _ ⟨hm, hmk, hks⟩ rfl hlen
            have hca := hks.cell hcaN (.inl ⟨by show Z + 1 + 1 + 1 + 1 < _; omega, by show Z + 1 + 1 + 1 + 1 ≠ _; omega⟩)
            have hcb := hks.cell hcbN (.inl ⟨by show Z + 1 + 1 < _; omega, by show Z + 1 + 1 ≠ _; omega⟩)
            have hwc := hks.cell hNF.wc (.inr (.inl rfl))
            obtain ⟨hy1, hy2⟩ := HStep.out.2.2.1 _ y.2
            have hpl : pre.length ≤ 2 := by have := HStep.out.2.1; omega
            have HAdd := hide (fun W' hm' hcb' => msAdd_any (ofRaw y.1.1) (wv ++ sfx y.1.1 y.1.2) (by rw [ofRaw_size]; omega) (Z + 1) (Z + 1 + 1) (2 * s + 1 + pre.length) (addN (fS s) wv (pre.map Subtype.val)) W' hm' (by omega) hcb' (by omega))
            unfold msFn at hca
            have HI2 := hide (fun W' => I3.add (s := s) (wv := wv) (W := W) (W' := W') (pre := pre) (y := y) hNF.base hNF.size hmk hks)
            have HMm := hide hm
            clear hks hmk hm
            obtain ⟨z, hz⟩ : ∃ z, y.1.1.length - y.1.2 = z := ⟨_, rfl⟩
            have hsl : IntKind.i64.wrap ((y.1.1.length : Int) - (y.1.2 : Int)) = (z : Int) := by rw [IntWalk.i64_in _ (by omega)]; omega
            have hz0 : (0 : Int) ≤ (z : Int) := by omega
            have hz1 : (z : Int) ≤ (y.1.1.length : Int) := by omega
            have hwz := HStep.out.2.2.2
            have hmD : MapS W.drew (Z + 1) (2 * s + 1 + pre.length) (addN (fS s) wv (pre.map Subtype.val)) := HMm.out
            have HAd := hide (HAdd.out W.drew hmD hcb)
            unfold sfx ofRaw at HAd HI2
            rw [hz] at HAd HI2
            clear HAdd HMm hmD
            have hq : ¬ 9223372036854775807 < wv.size + (y.1.1.length - z) := by omega
            have hmo : Tryz.prog.follows .mixedOrders = true := by kernel_rfl
            gi_wp2
            refine region_in_round (S := fun W' => W'.cell? ⟨Z + 1 + 1 + 1 + 1, 0, none⟩ = some (.func (.func 169) #[] #[.pointer (some ⟨Z + 1 + 1, 0, none⟩)]) ∧ W'.cell? ⟨M, 0, none⟩ = some (.string wv)) (by kernel_rfl) (by kernel_rfl) ⟨hca, hwc⟩ (fun hHeld => ?_)
            refine wpAnyH_take (i := 0) (oi := _) (v := ?v0) rfl (by kernel_rfl) (by kernel_rfl) (by kernel_rfl) (fun _ _ _ h => h) (Or.inl ⟨by rfl, ?hy0⟩) (by assumption) ?rest0
            case hy0 => (intro w hSw; (try dsimp only at hSw); go_simp; (try with_reducible rfl))
            (try simp only [List.getElem_toArray, List.getElem_cons_zero, Act.put, List.setIfInBounds_toArray, List.set_cons_zero, List.set_cons_succ])
            refine wpAnyH_take (i := 1) (oi := _) (v := ?v1) rfl (by kernel_rfl) (by kernel_rfl) (by kernel_rfl) (fun _ _ _ h => h) (Or.inl ⟨by rfl, ?hy1⟩) (by assumption) ?rest1
            case hy1 => (intro w hSw; (try dsimp only at hSw); go_simp; (try with_reducible rfl))
            (try simp only [List.getElem_toArray, List.getElem_cons_zero, List.getElem_cons_succ, Act.put, List.setIfInBounds_toArray, List.set_cons_zero, List.set_cons_succ])
            refine wpAnyH_take (i := 2) (oi := _) (v := ?v2) rfl (by kernel_rfl) (by kernel_rfl) (by kernel_rfl) (fun _ _ _ h => h) (Or.inl ⟨by rfl, ?hy2⟩) (by assumption) ?rest2
            case hy2 => (intro w hSw; (try dsimp only at hSw); go_simp; (try with_reducible rfl))
            (try simp only [List.getElem_toArray, List.getElem_cons_zero, List.getElem_cons_succ, Act.put, List.setIfInBounds_toArray, List.set_cons_zero, List.set_cons_succ])
            refine wpAnyH_take (i := 3) (oi := _) (v := ?v3) rfl (by kernel_rfl) (by kernel_rfl) (by kernel_rfl) (fun _ _ _ h => h) (Or.inl ⟨by rfl, ?hy3⟩) (by assumption) ?rest3
            case hy3 => (intro w hSw; (try dsimp only at hSw); go_simp; (try with_reducible rfl))
            (try simp only [List.getElem_toArray, List.getElem_cons_zero, List.getElem_cons_succ, Act.put, List.setIfInBounds_toArray, List.set_cons_zero, List.set_cons_succ])
            refine wpAnyH_take (i := 4) (oi := _) (v := ?v4) rfl (by kernel_rfl) (by kernel_rfl) (by kernel_rfl) (fun _ _ _ h => h) (Or.inl ⟨by rfl, ?hy4⟩) (by assumption) ?rest4
            case hy4 => (intro w hSw; (try dsimp only at hSw); go_simp; (try with_reducible rfl))
            (try simp only [List.getElem_toArray, List.getElem_cons_zero, List.getElem_cons_succ, Act.put, List.setIfInBounds_toArray, List.set_cons_zero, List.set_cons_succ])
            refine wpAnyH_take (i := 5) (oi := _) (v := ?v5) rfl (by kernel_rfl) (by kernel_rfl) (by kernel_rfl) (fun _ _ _ h => h) (Or.inl ⟨by rfl, ?hy5⟩) (by assumption) ?rest5
            case hy5 => (intro w hSw; (try dsimp only at hSw); go_simp; (try with_reducible rfl))
            (try simp only [List.getElem_toArray, List.getElem_cons_zero, List.getElem_cons_succ, Act.put, List.setIfInBounds_toArray, List.set_cons_zero, List.set_cons_succ])
            refine wpAnyH_take (i := 6) (oi := _) (v := ?v6) rfl (by kernel_rfl) (by kernel_rfl) (by kernel_rfl) (fun _ _ _ h => h) (Or.inl ⟨by rfl, ?hy6⟩) (by assumption) ?rest6
            case hy6 => (intro w hSw; (try dsimp only at hSw); go_simp; (try with_reducible rfl))
            (try simp only [List.getElem_toArray, List.getElem_cons_zero, List.getElem_cons_succ, Act.put, List.setIfInBounds_toArray, List.set_cons_zero, List.set_cons_succ])
            refine wpAnyH_take (i := 7) (oi := _) (v := ?v7) rfl (by kernel_rfl) (by kernel_rfl) (by kernel_rfl) (fun _ _ _ h => h) (Or.inl ⟨by rfl, ?hy7⟩) (by assumption) ?rest7
            case hy7 => (intro w hSw; (try dsimp only at hSw); go_simp; (try with_reducible rfl))
            (try simp only [List.getElem_toArray, List.getElem_cons_zero, List.getElem_cons_succ, Act.put, List.setIfInBounds_toArray, List.set_cons_zero, List.set_cons_succ])
            refine wpAnyH_take (i := 8) (oi := _) (v := ?v8) rfl (by kernel_rfl) (by kernel_rfl) (by kernel_rfl) (fun _ _ _ h => h) (Or.inl ⟨by rfl, ?hy8⟩) (by assumption) ?rest8
            case hy8 => (intro w hSw; (try dsimp only at hSw); go_simp; (try with_reducible rfl))
            (try simp only [List.getElem_toArray, List.getElem_cons_zero, List.getElem_cons_succ, Act.put, List.setIfInBounds_toArray, List.set_cons_zero, List.set_cons_succ])
            refine wpAnyH_take (i := 9) (oi := _) (v := ?v9) rfl (by kernel_rfl) (by kernel_rfl) (by kernel_rfl) (fun _ _ _ h => h) (Or.inl ⟨by rfl, ?hy9⟩) (by assumption) ?rest9
            case hy9 => (intro w hSw; (try dsimp only at hSw); go_simp; (try with_reducible rfl))
            (try simp only [List.getElem_toArray, List.getElem_cons_zero, List.getElem_cons_succ, Act.put, List.setIfInBounds_toArray, List.set_cons_zero, List.set_cons_succ])
            refine wpAnyH_ready (rs := [10]) (by kernel_rfl) (by simp) ?_
            refine AllReadyH.cons (o := _) rfl (fun K hK => ?_) AllReadyH.nil
            go_simp
            (with_reducible refine HAd.out.mono ?_)
            rintro e w' ⟨rfl, ha, hg⟩
            have hS9 := hide (And.intro (hg.cell (show W.drew.cell? ⟨Z + 1 + 1 + 1 + 1, 0, none⟩ = _ from hca) (by simp <;> omega)) (hg.cell (show W.drew.cell? ⟨M, 0, none⟩ = _ from hwc) (by simp <;> omega)))
            have HR2 := hide (HI2.out w' ha (show W.grownBy w' _ from ⟨hg.os, hg.tape, hg.output, hg.size, hg.block⟩))
            clear ha hg
            refine hK.out _ _ ?_ (fun hHeld => ?_)
            · exact hS9.out
            clear hK K
            (try simp only [List.getElem_toArray, List.getElem_cons_zero, List.getElem_cons_succ, Act.put, List.setIfInBounds_toArray, List.set_cons_zero, List.set_cons_succ])
            refine wpAnyH_done (by kernel_rfl) ?_ _
            refine OnlyN.mk ?_
            exact HR2.out
          case done2 =>
            rintro D2 ys2 W2 hD2 hys2 ⟨hm2, hM2, hks2⟩ hK2
            rw [hys2, HStep.out.1] at hm2
            have hyl : ys2.length ≤ 2 := by rw [← List.length_map (f := Subtype.val), hys2]; exact HStep.out.2.1
            have hI2 : InvM Z W6 (s + 1) (mark D2 :: ds) W2 := ⟨hm2.mono (by omega), by
              obtain ⟨Dd, h1, h2⟩ := hNF.dn
              refine ⟨Dd, ?_, h2⟩
              obtain ⟨es, clock, hb, F, hs, rfl⟩ := h1
              exact ⟨es, clock, (hks2.block _ (Array.getElem?_eq_some_iff.1 hb).1 (.inl ⟨by omega, by omega⟩)).trans hb, F, hs, rfl⟩,
              Marks.cons hNF.mrk hM2 (by have := hNF.size; have := hNF.base; omega) hD2 hK2, hNF.ks.trans (hks2.mono fun k hk => .inl (hrb k hk))⟩
            have HI2 := hide hI2
            clear hm2 hM2 hks2 hK2 hys2 hI2
            gi_wp2
            exact ⟨by omega, _, _, _, _, _, _, _, _, _, _, _, _, _, _, _, _, _, _, _, _, _, _, _, _, _, _, _, _, _, _, _, _, _, _, _, _, _, _, _, _, _, _, _, _, _, _, _, _, HI2.out, rfl⟩
          case stop2 =>
            rintro D c pre W _ _ h _
            exact h.elim
      · intro x w1 cnt1 hxm hsome hlk hrg1 hltc hg1 hs1 hen
        have hI1 := HI.out.grown hg1 (fun r e => by cases e; exact ⟨hZN, ranges_iter hrg⟩)
        have hcb1 : w1.cell? ⟨Z + 1 + 1, 0, none⟩ = some (.map (some (Z + 1))) := hI1.ks.cell HW.out.cb ⟨by show Z + 1 + 1 < _; omega, by show Z + 1 + 1 ≠ _; omega, by show Z + 1 + 1 ≠ _; omega⟩
        have hlook := hI1.dn.look x hxm
        clear hg1 hlk hxm HI hrg
        by_cases hx : x.data.toList ∈ dS s
        · rw [decide_eq_true hx] at hlook
          have HP2 := hide (HP.out.skip (x := x.data.toList) (fun _ => hx))
          have HI1 := hide hI1
          clear hI1 HP hx hcb1
          go_wp2
          go_roundw
          case rel => exact ⟨_, cnt1, next, found, rfl, rfl, hrg1, HP2, HI1⟩
          case measure => rw [hrg1.left_eq, hle0]; exact hltc
        · rw [decide_eq_false hx] at hlook
          have HPT := hide (PickP.take (left := fun z => left z && !z.sameKey (.string x.data.toList)) hsome hx)
          cases found with
          | false =>
            have HI1 := hide hI1
            clear hI1 HP hx hcb1
            go_wp2
            go_roundw
            case rel => exact ⟨_, cnt1, x, true, rfl, rfl, hrg1, HPT, HI1⟩
            case measure => rw [hrg1.left_eq, hle0]; exact hltc
          | true =>
            have hgt := hI1.best.get next (by have := fS_len hs (HP.out.2 rfl).1; have e : next.size = next.data.toList.length := by simp
                                              unfold maxLen; omega)
            have HOrd := hide (fun W => dcorder_any (getS (fS s) x.data.toList) (getS (fS s) next.data.toList) W)
            have HP2 := hide (HP.out.skip (x := x.data.toList) (fun h => by cases h))
            have HI1 := hide hI1
            have HRG := hide hrg1
            clear hI1 HP hx
            obtain ⟨c, hc⟩ : ∃ c, cmpW (getS (fS s) x.data.toList).data.toList (getS (fS s) next.data.toList).data.toList = c := ⟨_, rfl⟩
            obtain ⟨g1, hg1⟩ : ∃ g, getS (fS s) x.data.toList = g := ⟨_, rfl⟩
            obtain ⟨g2, hg2⟩ : ∃ g, getS (fS s) next.data.toList = g := ⟨_, rfl⟩
            rw [hc, hg1, hg2] at HOrd
            rw [hg2] at hgt
            rw [hg1] at hen
            clear hc hg1 hg2
            go_wp2_with fail
            (with_reducible refine (HOrd.out _).mono ?_)
            rintro e w2 ⟨rfl, rfl⟩
            have HI2 := hide (HI1.out.grown (World.grownBy_alloc w1 (Obj.cells #[.int .i64 (Lib.compareInt g1.size g2.size), .int .i64 (Lib.compareBytes g1.data.toList g2.data.toList)] 3) none) (fun r e => by cases e))
            have hrg2 := HRG.out.alloc (Obj.cells #[.int .i64 (Lib.compareInt g1.size g2.size), .int .i64 (Lib.compareBytes g1.data.toList g2.data.toList)] 3)
            clear HI1 HRG hrg1 HOrd hgt hlook hcb1 hen
            by_cases h3 : c < 0
            · go_wp2
              go_roundw
              case rel => exact ⟨_, cnt1, x, true, rfl, rfl, hrg2, HPT, HI2⟩
              case measure => rw [hrg2.left_eq, hle0]; exact hltc
            · go_wp2
              go_roundw
              case rel => exact ⟨_, cnt1, next, true, rfl, rfl, hrg2, HP2, HI2⟩
              case measure => rw [hrg2.left_eq, hle0]; exact hltc
  case stop =>
    rintro D c pre W _ _ h _
    exact h.elim
end Go.Proofs.YtldgjljecbohoaaGreatDoor

/- A map from strings to bools that holds 'true' for the words of a list: store, look, range. -/
set_option linter.unusedVariables false
namespace Go.Proofs.YtldgjljecbohoaaGreatDoor
open Go.RowKit Go.Maps
theorem zeroBoolS (W : World) : (zeroValue 4).run Tryz.prog W = .ok (.bool false) W := by
  have h : (Tryz.prog.info? 4).map (·.zero) = some (some (.bool false)) := by kernel_rfl
  cases hq : Tryz.prog.info? 4 with
  | none => rw [hq] at h; cases h
  | some i =>
    rw [hq] at h
    simp at h
    simp [zeroValue, typeInfo, hq, h]
def StD (D : DataW Value) (S : List (List UInt8)) : Prop := IsMap D ∧ ∀ z, has D (.string z) = decide (z ∈ S) ∧ (z ∈ S → ∀ zd, D.atKey (.string z) zd = .held (.bool true))
/-- block B is a map of up to n words, those of S -/
def SetB (w : World) (B n : Nat) (S : List (List UInt8)) : Prop := ∃ D, w.ownsMap Tryz.prog 9 heldS B n D ∧ StD D S
theorem SetB.kept {w w' : World} {B n : Nat} {S : List (List UInt8)} {row : Option Nat} (h : SetB w B n S) (hg : w.grownBy w' row) (hne : some B ≠ row) : SetB w' B n S := by
  obtain ⟨D, h1, h2⟩ := h
  exact ⟨D, h1.kept hg hne, h2⟩
theorem SetB.made (w : World) : SetB (w.alloc (.map #[] 0)) w.heap.size 0 [] := ⟨_, World.ownsMap_made w _ _ _, ⟨[], rfl⟩, fun z => ⟨by simp [has], fun h => nomatch h⟩⟩
theorem SetB.lt {w : World} {B n : Nat} {S : List (List UInt8)} (h : SetB w B n S) : B < w.heap.size := by obtain ⟨D, h1, _⟩ := h; exact h1.lt
theorem SetB.get {w : World} {B n : Nat} {S : List (List UInt8)} (h : SetB w B n S) (z : ByteArray) (hz : z.size ≤ maxLen) :
    (Instr.lookup 152 (.map (some B)) (.string z) false).run Tryz.prog w = .ok (.bool (decide (z.data.toList ∈ S))) w := by
  obtain ⟨D, h1, h2⟩ := h
  obtain ⟨v, ps, hr, hv⟩ := h1.lookup strLawS Tryz.underlying152 (z := .bool false) (zeroBoolS w) (zd := .held (.bool false)) (zp := []) rfl (WideMaps.keyOf_string_mk (P := Tryz.prog) Tryz.underlying9 hz)
  rw [hr]
  have hv' : DataW.held v = D.atKey (.string z.data.toList) (.held (.bool false)) := congrArg Prod.fst (Option.some.inj hv)
  have e : v = .bool (decide (z.data.toList ∈ S)) := by
    by_cases hm : z.data.toList ∈ S
    · rw [(h2.2 _).2 hm] at hv'
      rw [decide_eq_true hm]
      simpa using hv'
    · have := (h2.2 z.data.toList).1
      rw [decide_eq_false hm] at this ⊢
      rw [atKey_of_not_has this] at hv'
      simpa using hv'
  rw [e]
theorem StD.put {D : DataW Value} {S : List (List UInt8)} (h : StD D S) (r : List UInt8) : StD (D.put (.string r) (.held (.bool true))) (S ++ [r]) := by
  refine ⟨h.1.put _ _, fun z => ?_⟩
  by_cases e : z = r
  · subst e
    rw [has_put_same h.1 (by unfold WideAt.IsKeyLit; trivial)]
    exact ⟨by simp, fun _ zd => atKey_put_same h.1 (by unfold WideAt.IsKeyLit; trivial) _ _⟩
  · have hne : Lit.string z ≠ .string r := by simpa using e
    rw [has_put_other hne]
    refine ⟨by rw [(h.2 z).1]; exact decide_eq_decide.2 (by simp [e]), fun hm zd => ?_⟩
    rw [atKey_put_other hne]
    exact (h.2 z).2 (by simpa [e] using hm) zd
theorem SetB.store {w : World} {B n : Nat} {S : List (List UInt8)} (h : SetB w B n S) (hn : n ≤ 1000000000) (r : ByteArray) (hr : r.size ≤ maxLen) :
    ∃ w', (Instr.mapUpdate 152 (.map (some B)) (.string r) (.bool true)).run Tryz.prog w = .ok () w' ∧ SetB w' B (n + 1) (S ++ [r.data.toList]) ∧ w.grownBy w' (some B) := by
  obtain ⟨D, hD, hF⟩ := h
  obtain ⟨w', hrun, ho, hg⟩ := hD.update (val := .bool true) (ps := []) strLawS Tryz.underlying152 (by unfold maxLen; omega) (WideMaps.keyOf_string_mk (P := Tryz.prog) Tryz.underlying9 hr) rfl
  exact ⟨w', hrun, ⟨_, ho, hF.put _⟩, hg⟩
theorem wpList_next_set (w : World) {ops : Array Oper} {rest : List Oper} {o : Oper} {a : Act} {Q : Exit → Act → World → Prop} (hg : o.guard = none) (it : Operand) (hop : o.op = Op.next it false)
    (b r n : Nat) (D : DataW Value) (S : List (List UInt8)) (hD : StD D S) (left : Lit → Bool) (cnt : Nat) (hit : a.eval it = .pointer (some ⟨r, 0, none⟩)) (h : w.ranges Tryz.prog 9 heldS b r n D left cnt)
    (hDone : cnt = 0 → (∀ kl, left kl = false) → wpList Tryz.prog ops Q rest (a.put o.dst (.tuple #[.bool false])) w)
    (hMore : ∀ (x : ByteArray) (w' : World) (cnt' : Nat), x.size ≤ maxLen → x.data.toList ∈ S → left (.string x.data.toList) = true → w'.ranges Tryz.prog 9 heldS b r n D (fun z => left z && !z.sameKey (.string x.data.toList)) cnt' → cnt' < cnt →
      w.grownBy w' (some r) → w'.heap.size = w.heap.size → (Instr.entry (.pointer (some ⟨r, 0, none⟩))).run Tryz.prog w' = .ok (.tuple #[.string x, .bool true]) w' → wpList Tryz.prog ops Q rest (a.put o.dst (.tuple #[.bool true, .string x, .bool true])) w') :
    wpList Tryz.prog ops Q (o :: rest) a w :=
  wpList_next_ranges (α := ByteArray) (β := Value) w hg it hop 9 strLawS heldS Value.string (fun v => v) (fun key kl hkey => by obtain ⟨x, rfl, _⟩ := Maps.keyOf_str Tryz.underlying9 hkey; exact ⟨⟨x.toArray⟩, rfl⟩) (fun v y _ => ⟨v, rfl⟩)
    b r n D left cnt hit h hDone (fun x v kl y w' cnt' hkey hlk hv hat hrg hlt hgr hsz hen => by
      obtain ⟨x', ex, rfl, hml⟩ := Maps.keyOf_str Tryz.underlying9 hkey
      have e : x = ⟨x'.toArray⟩ := by simpa [encStr] using ex
      subst e
      have hhas := has_true_of_atKey hat
      have hmem : (⟨x'.toArray⟩ : ByteArray).data.toList ∈ S := by
        have := (hD.2 x').1
        rw [hhas] at this
        simpa using this.symm
      have hv2 : v = .bool true := by
        have h1 := (hD.2 _).2 hmem (.held undef)
        have h2 := hat (.held undef)
        have h3 : y.1 = DataW.held v := by unfold heldS at hv; cases hv; rfl
        have h4 : (⟨x'.toArray⟩ : ByteArray).data.toList = x' := by simp
        rw [h4] at h1
        rw [h2, h3] at h1
        simpa using h1
      subst hv2
      exact hMore _ w' cnt' (by rw [show (⟨x'.toArray⟩ : ByteArray).size = x'.length from by simp [ByteArray.size]]; exact hml) hmem (by simpa using hlk) (by simpa using hrg) hlt hgr hsz hen)
end Go.Proofs.YtldgjljecbohoaaGreatDoor

/- A range over a function whose iterator hands over rows that it has made: the body is told what the iterator has laid ahead of the round ('Pre'). No program in sight. -/
set_option linter.unusedVariables false
namespace Go.Proofs.YtldgjljecbohoaaGreatDoor
open Go.RowKit Go.Shelf
/-- what the iterator may turn between two rounds: its walks, and its own cells, but for the rows that it has handed over -/
def AbidesB {α : Type} (B : Nat) (blk : α → Nat) (J : List α → World → Prop) : Prop :=
  ∀ pre W W' row, J pre W → W.grownBy W' row → (∀ r, row = some r → B ≤ r ∧ ∃ o : Obj, W.heap[r]? = some o ∧ (o.isWalk = true ∨ (o.isCells = true ∧ ∀ x ∈ pre, blk x ≠ r))) → J pre W'
/-- what the loop's invariant must bear -/
def OwnB {α : Type} (B : Nat) (blk : α → Nat) (I : List α → World → Prop) : Prop :=
  ∀ pre W W' row, I pre W → W.grownBy W' row → (∀ r, row = some r → B ≤ r ∧ ∃ o : Obj, W.heap[r]? = some o ∧ (o.isCells = false ∨ ∀ x ∈ pre, blk x ≠ r)) → I pre W'
theorem OwnB.alloc {α : Type} {B : Nat} {blk : α → Nat} {I : List α → World → Prop} (h : OwnB B blk I) {pre : List α} {W : World} (o : Obj) (hs : I pre W) : I pre (W.alloc o) := h pre W _ none hs (World.grownBy_alloc W o none) (fun r e => by cases e)
theorem OwnB.putObj {α : Type} {B : Nat} {blk : α → Nat} {I : List α → World → Prop} (h : OwnB B blk I) {pre : List α} {W : World} {l : Nat} {o : Obj} (o' : Obj) (hs : I pre W) (hB : B ≤ l) (hl : W.heap[l]? = some o) (ho : o.isCells = false) : I pre (W.putObj l o') :=
  h pre W _ (some l) hs (grownBy_putObj' W l o') (fun r e => by cases e; exact ⟨hB, o, hl, .inl ho⟩)
/-- what an iterator owes: 'Pre x W' holds in the world in which it hands over x -/
def SeqPre {α : Type} (F : Fence) (n : Nat) (P : Program) (g : Nat) (lb : Array Value) (encs : α → Array Value) (Kp : World → World → Prop) (Pre : α → World → Prop) (blk : α → Nat) (S Sp : List α → Prop) (w : World) : Prop :=
  ∀ (l : Nat) (J Jx : List α → World → Prop) (W : World), Below w.heap.size w W → AbidesB W.heap.size blk J → AbidesB W.heap.size blk Jx →
    (∀ pre x W1, J pre W1 → Pre x W1 → YieldAt F (n - 1) P l (encs x) W1 fun e W' => (e = .returned (.bool true) ∧ J (pre ++ [x]) W' ∧ Kp W1 W') ∨ (e = .returned (.bool false) ∧ Jx (pre ++ [x]) W')) →
    J [] W → CallsIn F n P g (#[.func (.yield l) #[] #[]] ++ lb) W fun e W' => (∃ v, e = .returned v) ∧ ((∃ xs, S xs ∧ J xs W') ∨ (∃ pre, Sp pre ∧ Jx pre W'))
section
variable {F : Fence} {n : Nat} {P : Program}
/-- the two blocks of the loop's book-keeping -/
structure Book (w : World) (o d : Obj) (W : World) : Prop where
  loop : W.heap[w.heap.size + 1]? = some o
  calls : W.heap[w.heap.size]? = some d
theorem Book.keeps {w W W' : World} {o d : Obj} (h : Book w o d W) (hk : KeepsFrom w.heap.size W W') (h1 : o.isCells = false) (h2 : d.isCells = false) : Book w o d W' :=
  ⟨hk.same _ _ (by omega) h.loop h1, hk.same _ _ (Nat.le_refl _) h.calls h2⟩
theorem Book.turn {w W : World} {o d : Obj} (h : Book w o d W) (o' : Obj) : Book w o' d (W.putObj (w.heap.size + 1) o') :=
  ⟨World.putObj_heap_same (Array.getElem?_eq_some_iff.1 h.loop).1, (World.putObj_heap_other (by omega)).trans h.calls⟩
theorem wpIn_rangeFunc_pre {α : Type} {g : Operand} {ps : Array Tmp} {assign body : Code} {Q : Exit → Act → World → Prop} {a : Act} {w : World}
    (hro : F.round = none) (h1 : 1 ≤ n) {gf : Nat} {lb : Array Value} (hg : a.eval g = .func (.func gf) #[] lb) (hFg : F.fn gf) (eg : ∀ args w, (callFunc gf args).run P w = .ok (.enter gf args) w)
    {encs : α → Array Value} (hps : ∀ x, (encs x).size = ps.size) {Kp : World → World → Prop} {Pre : α → World → Prop} {blk : α → Nat} {S Sp : List α → Prop} (hseq : SeqPre F (n - 1) P gf lb encs Kp Pre blk S Sp w)
    (hKt : ∀ {A B C : World}, Kp A B → Kp B C → Kp A C) (hKb : ∀ (W : World) (l : Nat) (o o' : Obj), w.heap.size ≤ l → W.heap[l]? = some o → o.isCells = false → o.isWalk = false → Kp W (W.putObj l o'))
    (I : List α → World → Prop) (Ix : Code → List α → World → Prop) (hI : OwnB w.heap.size blk I) (hIx : ∀ c, OwnB w.heap.size blk (Ix c)) (h0 : I [] w) (Ax : List α → α → Act → World → Prop) (hAx : ∀ pre x a', OwnFrom w.heap.size (fun (_ : Unit) W => Ax pre x a' W))
    (hassign : ∀ (l : Nat) (pre : List α) (x : α) (W : World) (K : Act → World → Prop), I pre W → Pre x W → (∀ a' W', KeepsFrom w.heap.size W W' → Kp W W' → Ax pre x a' W' → K a' W') →
      assign.wpIn (F.inRound l) (n - 1 - 1) P (Exit.then K (fun _ _ _ => False)) { tmps := (ps.zip (encs x)).foldl (fun t (p, v) => t.setIfInBounds p v) a.tmps, defers := [] } W)
    (hbody : ∀ (l : Nat) (pre : List α) (x : α) (a' : Act) (W : World), Ax pre x a' W → body.wpIn (F.inRound l) (n - 1 - 1) P (ownPostG w.heap.size Kp I Ix (pre ++ [x]) W) a' W)
    (hdone : ∀ (D : Nat) (xs : List α) (W : World), w.heap.size ≤ D → S xs → I xs W → W.heap[D]? = some (.deferred (some [])) → Q .normal { a with defers := { target := .collected D, args := #[] } :: a.defers } W)
    (hstop : ∀ (D : Nat) (c : Code) (pre : List α) (W : World), w.heap.size ≤ D → Sp pre → Ix c pre W → W.heap[D]? = some (.deferred (some [])) → c.wpIn F n P Q { a with defers := { target := .collected D, args := #[] } :: a.defers } W) :
    (Code.rangeFunc g ps assign body).wpIn F n P Q a w := by
  refine wpIn_rangeFunc fun fn hfn => ?_
  rw [hro]
  let rec_ : LoopState → Option Code → Obj := fun st pe => .loop { state := st, pending := pe, fn, tmps := a.tmps, params := ps, assign, body, defers := w.heap.size }
  have hR : rec_ = fun st pe => .loop { state := st, pending := pe, fn, tmps := a.tmps, params := ps, assign, body, defers := w.heap.size } := rfl
  obtain ⟨W1, hW1⟩ : ∃ W1, (w.alloc (.deferred (some []))).alloc (rec_ .ready none) = W1 := ⟨_, rfl⟩
  have hB1 : Book w (rec_ .ready none) (.deferred (some [])) W1 := by
    rw [← hW1]
    refine ⟨?_, (Below.heap_alloc _ _ _ (by simp)).trans (World.alloc_heap_new w _)⟩
    have := World.alloc_heap_new (w.alloc (.deferred (some []))) (rec_ .ready none)
    rwa [World.size_alloc] at this
  have hz1 : W1.heap.size = w.heap.size + 2 := by rw [← hW1]; simp
  have hb1 : Below w.heap.size w W1 := by rw [← hW1]; exact ((Below.refl _ w).alloc (Nat.le_refl _) _).alloc (by simp) _
  have hI1 : I [] W1 := by rw [← hW1]; exact hI.alloc _ (hI.alloc _ h0)
  -- what the iterator turns of its own lies behind the loop's beginning
  have low : ∀ {X : World} {row : Option Nat} {pre : List α}, (∀ r, row = some r → W1.heap.size ≤ r ∧ ∃ o : Obj, X.heap[r]? = some o ∧ (o.isWalk = true ∨ (o.isCells = true ∧ ∀ x ∈ pre, blk x ≠ r))) → ∀ r, row = some r → w.heap.size ≤ r ∧ ∃ o : Obj, X.heap[r]? = some o ∧ (o.isCells = false ∨ ∀ x ∈ pre, blk x ≠ r) := fun h r e => by
    obtain ⟨a, o, b, c⟩ := h r e
    exact ⟨by omega, o, b, c.elim (fun c => .inl (Obj.not_cells_of_walk c)) (fun c => .inr c.2)⟩
  have bk : ∀ {X Y : World} {row : Option Nat} {o d : Obj}, Book w o d X → X.grownBy Y row → (∀ r, row = some r → W1.heap.size ≤ r) → Book w o d Y := fun hb hgr hr =>
    ⟨(hgr.block _ (Array.getElem?_eq_some_iff.1 hb.loop).1 (fun e => by have := hr _ e.symm; omega)).trans hb.loop, (hgr.block _ (Array.getElem?_eq_some_iff.1 hb.calls).1 (fun e => by have := hr _ e.symm; omega)).trans hb.calls⟩
  refine ⟨w.heap.size + 1, [{ target := .collected w.heap.size, args := #[] }], W1, { target := .fn (.func gf) lb, args := #[.func (.yield (w.heap.size + 1)) #[] #[]] }, W1, gf, #[.func (.yield (w.heap.size + 1)) #[] #[]] ++ lb, W1, ?_, ?_, ?_, ?_, fun _ => h1, ?_⟩
  · rw [← hW1]; exact run_enterLoop_outer _ _ _ _ _
  · simp only [resolve, hg]; simp [go_sem]
  · intro f' hf'; simp [Target.leads] at hf'; subst hf'; exact hFg
  · simp [invoke, go_sem, eg]
  refine (hseq (w.heap.size + 1) (fun pre W => I pre W ∧ Book w (rec_ .ready none) (.deferred (some [])) W) (fun pre W => ∃ c, Ix c pre W ∧ Book w (rec_ .done (some c)) (.deferred (some [])) W) W1 hb1
    (fun s X Y row hs hgr hr => ⟨hI s X Y row hs.1 hgr (low hr), bk hs.2 hgr (fun r e => (hr r e).1)⟩)
    (fun s X Y row hs hgr hr => by obtain ⟨c, hc, hb⟩ := hs; exact ⟨c, hIx c s X Y row hc hgr (low hr), bk hb hgr (fun r e => (hr r e).1)⟩) ?_ ⟨hI1, hB1⟩).mono ?_
  · rintro pre x W ⟨hi, hbk⟩ hpre
    have hy := run_yield (P := P) (args := encs x) hbk.loop (hps x)
    refine ⟨fn, _, assign, body, hy, roundIn_of_wpIn hfn (hassign _ pre x W _ hi hpre fun a' Wa hkf hkp hax => ?_)⟩
    have hba := hbk.keeps hkf rfl rfl
    refine ⟨_, run_beginRound hba.loop rfl, ?_⟩
    have hbb := hba.turn (rec_ .busy none)
    refine wpIn_mono (hbody _ pre x a' _ ((hAx pre x a').putObj (s := ()) _ hax (by omega) hba.loop rfl)) ?_
    have kb : ∀ {X : World} {o : Obj} (o' : Obj), Book w o (.deferred (some [])) X → o.isCells = false → o.isWalk = false → Kp X (X.putObj (w.heap.size + 1) o') := fun o' hb hc hw => hKb _ _ _ _ (by omega) hb.loop hc hw
    -- the round's end
    have fin : ∀ (jump : Option Code) (W3 : World), Book w (rec_ .busy none) (.deferred (some [])) W3 → (Instr.endRound (w.heap.size + 1) jump).run P W3 = .ok (.bool jump.isNone) (W3.putObj (w.heap.size + 1) (rec_ (if jump.isNone then .ready else .done) jump)) :=
      fun jump W3 h3 => run_endRound (P := P) jump h3.loop
    have left : ∀ (c : Code) (W3 : World), KeepsFrom w.heap.size (Wa.putObj (w.heap.size + 1) (rec_ .busy none)) W3 → Ix c (pre ++ [x]) W3 →
        ∃ c', Ix c' (pre ++ [x]) (W3.putObj (w.heap.size + 1) (rec_ .done (some c))) ∧ Book w (rec_ .done (some c')) (.deferred (some [])) (W3.putObj (w.heap.size + 1) (rec_ .done (some c))) := fun c W3 hk3 hi3 =>
      have h3 := hbb.keeps hk3 rfl rfl
      ⟨c, (hIx c).putObj _ hi3 (by omega) h3.loop rfl, h3.turn _⟩
    rintro e a3 W3 hp
    cases e with
    | normal =>
      obtain ⟨hk3, hkp3, hi3⟩ := hp
      have h3 := hbb.keeps hk3 rfl rfl
      exact ⟨_, _, fin none W3 h3, .inl ⟨rfl, ⟨hI.putObj _ hi3 (by omega) h3.loop rfl, h3.turn _⟩, hKt hkp (hKt (hKt (kb _ hba rfl rfl) hkp3) (kb _ h3 rfl rfl))⟩⟩
    | ret => exact ⟨_, _, fin (some .ret) W3 (hbb.keeps hp.1 rfl rfl), .inr ⟨rfl, left .ret W3 hp.1 hp.2⟩⟩
    | exit id => exact ⟨_, _, fin (some (.exit id)) W3 (hbb.keeps hp.1 rfl rfl), .inr ⟨rfl, left (.exit id) W3 hp.1 hp.2⟩⟩
    | goto t => exact ⟨_, _, fin (some (.goto t)) W3 (hbb.keeps hp.1 rfl rfl), .inr ⟨rfl, left (.goto t) W3 hp.1 hp.2⟩⟩
    | panic ch => exact hp.elim
    | outgrown => exact hp.elim
  · rintro e W2 ⟨⟨v, rfl⟩, (⟨xs, hS, hi, hb⟩ | ⟨pre, hSp, c, hi, hb⟩)⟩
    · exact ⟨none, _, run_endLoop (P := P) hb.loop (by simp), hdone _ xs _ (Nat.le_refl _) hS (hI.putObj _ hi (by omega) hb.loop rfl) ((World.putObj_heap_other (by omega)).trans hb.calls)⟩
    · exact ⟨some c, _, run_endLoop (P := P) hb.loop (by simp), hstop _ c pre _ (Nat.le_refl _) hSp ((hIx c).putObj _ hi (by omega) hb.loop rfl) ((World.putObj_heap_other (by omega)).trans hb.calls)⟩
end
end Go.Proofs.YtldgjljecbohoaaGreatDoor

/- Rows of ints that the call itself makes. -/
set_option linter.unusedVariables false
namespace Go.Proofs.YtldgjljecbohoaaGreatDoor
open Go.RowKit
theorem infoIntA : (Tryz.prog.info? 3).map (fun i => (i.zero, i.size, i.bytes)) = some (some (.int .i64 0), 1, 8) := by kernel_rfl
/-- the slice value v holds the strings xs in a row of the call's own (blocks from B on) -/
def Ints (w : World) (B : Nat) (v : Value) (xs : List Int) : Prop := w.ownsRow B 3 1 v xs.length (xs.map (Value.int .i64))
section
variable {w w' : World} {B : Nat} {v : Value} {xs : List Int}
theorem Ints.nil_ (w : World) (B : Nat) : Ints w B (.slice none 0 0) [] := World.ownsRow_nil _ _ _ _
theorem Ints.alloc (h : Ints w B v xs) (o : Obj) : Ints (w.alloc o) B v xs := World.ownsRow.alloc h o
theorem Ints.drew (h : Ints w B v xs) : Ints w.drew B v xs := h
theorem Ints.drewN (h : Ints w B v xs) (n : Nat) : Ints (w.drewN n) B v xs := h
theorem Ints.lit (w : World) (xs : List Int) (hB : B ≤ w.heap.size) (hm : xs.length ≤ 4294967296) (cs : Array Value) (hc : cs = (xs.map (Value.int .i64)).toArray) :
    Ints (w.alloc (.cells cs 3)) B (.slice (some ⟨w.heap.size, 0, none⟩) xs.length xs.length) xs := by
  subst hc
  have := World.ownsRow_lit (base := B) (e := 3) (size := 1) w (xs.map (Value.int .i64)).toArray xs.length hB (by unfold maxLen; omega) (by simp)
  simpa [Ints] using this
theorem Ints.empty_ {w : World} {B g : Nat} (hg : w.heap.size = g) (hB : B ≤ g) : Ints (w.alloc (.cells #[] 3)) B (.slice (some ⟨g, 0, none⟩) 0 0) [] := by
  subst hg
  exact World.ownsRow_made (base := B) (e := 3) (size := 1) w #[] 0 hB (by decide) rfl
theorem Ints.one_ {w : World} {B g : Nat} (hg : w.heap.size = g) (hB : B ≤ g) (s : Int) : Ints (w.alloc (.cells #[.int .i64 s] 3)) B (.slice (some ⟨g, 0, none⟩) 1 1) [s] := by
  subst hg
  exact Ints.lit w [s] hB (by simp) _ rfl
theorem Ints.form (h : Ints w B v xs) (hne : 0 < xs.length) : ∃ g cap, v = .slice (some ⟨g, 0, none⟩) xs.length cap ∧ B ≤ g ∧ g < w.heap.size := by
  rcases h.2 with ⟨_, hn⟩ | ⟨g, cap, cur, hv, hb, hh, _⟩
  · omega
  · refine ⟨g, cap, hv, hb, ?_⟩
    rcases Nat.lt_or_ge g w.heap.size with hlt | hge
    · exact hlt
    · rw [Array.getElem?_eq_none hge] at hh; cases hh
/-- the value: nil, or a slice of that length -/
theorem Ints.shape (h : Ints w B v xs) : ∃ ad cap, v = .slice ad xs.length cap := by
  rcases h.2 with ⟨hv, hn⟩ | ⟨g, cap, cur, hv, _⟩
  · exact ⟨none, 0, by rw [hv, hn]⟩
  · exact ⟨_, cap, hv⟩
theorem Ints.cell {g cap n : Nat} (h : Ints w B (.slice (some ⟨g, 0, none⟩) n cap) xs) {k : Nat} (hk : k < xs.length) : w.cell? ⟨g, k, none⟩ = some (.int .i64 xs[k]) := by
  have hn : n = xs.length := by
    rcases h.2 with ⟨h', _⟩ | ⟨g', cap', cur, h', _⟩
    · simp at h'
    · simp only [Value.slice.injEq] at h'; exact h'.2.1
  subst hn
  have := World.ownsRow.cellAt h k (by omega)
  rw [this]; simp [hk]
end
theorem run_app_ints (w : World) (ty : TypeId) (B : Nat) (v : Value) (xs : List Int) (hown : Ints w B v xs) (g m : Nat) (news : List Int) (hl : news.length = m)
    (hblk : w.heap[g]? = some (.cells (news.map (Value.int .i64)).toArray 3 (0, 0))) (hb : xs.length + m ≤ 4294967296) (hbase : B ≤ w.heap.size) :
    ∃ v' w', (Builtin.append_ #[31, 31] ty #[v, .slice (some ⟨g, 0, none⟩) m m]).run Tryz.prog w = .ok v' w' ∧ Ints w' B v' (xs ++ news) ∧ w.grownBy w' v.ownBlock := by
  obtain ⟨i0, hi, hz0, hz1, hz2⟩ := info_parts infoIntA
  obtain ⟨v', w', h1, h2, h3, _⟩ := run_append_own (P := Tryz.prog) w B 31 ty 3 i0 _ 1 8 Tryz.underlying31 hi hz0 hz1 hz2 rfl (by decide) v xs.length (xs.map (Value.int .i64)) hown ⟨g, 0, none⟩ m m (news.map (Value.int .i64)) (by simp [hl]) (by
      intro j u hj
      have : (⟨g, 0, none⟩ : Addr).add j = ⟨g, j, none⟩ := by unfold Addr.add; split <;> simp_all
      rw [this, cell_of_row w g j _ 3 (0, 0) hblk]
      simpa using hj) (by
      intro u hu
      obtain ⟨b, _, rfl⟩ := List.mem_map.1 hu
      rfl) (by unfold maxLen; omega) (by omega) hbase
  refine ⟨v', w', h1, ?_, h3⟩
  unfold Ints
  rw [List.length_append, hl, List.map_append]
  exact h2
theorem wp_app_ints {w : World} {o : Oper} {a : Act} {K : Act → World → Prop} {Q : Exit → Act → World → Prop} (s x : Operand)
    (ho : o.op = .call { callee := .builtin .append, args := #[s, x], argTypes := #[31, 31] })
    (B : Nat) (v : Value) (xs : List Int) (hs : a.eval s = v) (hown : Ints w B v xs)
    (g m : Nat) (news : List Int) (hx : a.eval x = .slice (some ⟨g, 0, none⟩) m m) (hl : news.length = m) (hblk : w.heap[g]? = some (.cells (news.map (Value.int .i64)).toArray 3 (0, 0)))
    (hb : xs.length + m ≤ 4294967296) (hbase : B ≤ w.heap.size)
    (h : ∀ v' w', Ints w' B v' (xs ++ news) → w.grownBy w' v.ownBlock → K (a.put o.dst v') w') : o.wp Tryz.prog a w K Q := by
  obtain ⟨v', w', hr, h2, h3⟩ := run_app_ints w o.type B v xs hown g m news hl hblk hb hbase
  unfold Oper.wp execOp
  simp only [ho, resolve, invoke, builtin, Sem.run_bind, Sem.run_pure, Result.andThen_ok, List.map_toArray, List.map_cons, List.map_nil, hs, hx, hr]
  exact h v' w' h2 h3
theorem wpList_app_ints {w : World} {ops : Array Oper} {rest : List Oper} {o : Oper} {a : Act} {Q : Exit → Act → World → Prop} (hgd : o.guard = none) (s x : Operand)
    (ho : o.op = .call { callee := .builtin .append, args := #[s, x], argTypes := #[31, 31] })
    (B : Nat) (v : Value) (xs : List Int) (hs : a.eval s = v) (hown : Ints w B v xs)
    (g m : Nat) (news : List Int) (hx : a.eval x = .slice (some ⟨g, 0, none⟩) m m) (hl : news.length = m) (hblk : w.heap[g]? = some (.cells (news.map (Value.int .i64)).toArray 3 (0, 0)))
    (hb : xs.length + m ≤ 4294967296) (hbase : B ≤ w.heap.size)
    (h : ∀ v' w', Ints w' B v' (xs ++ news) → w.grownBy w' v.ownBlock → wpList Tryz.prog ops Q rest (a.put o.dst v') w') : wpList Tryz.prog ops Q (o :: rest) a w :=
  wpList_plain hgd fun _ hK => wp_app_ints s x ho B v xs hs hown g m news hx hl hblk hb hbase fun v' w' h2 h3 => hK _ _ (h v' w' h2 h3)
theorem step_app_ints {w : World} {ops : Array Oper} {o : Oper} {a : Act} {K : Act → World → Prop} {Q : Exit → Act → World → Prop} {E : Prop} (hgd : o.guard = none) (s x : Operand)
    (ho : o.op = .call { callee := .builtin .append, args := #[s, x], argTypes := #[31, 31] })
    (B : Nat) (v : Value) (xs : List Int) (hs : a.eval s = v) (hown : Ints w B v xs)
    (g m : Nat) (news : List Int) (hx : a.eval x = .slice (some ⟨g, 0, none⟩) m m) (hl : news.length = m) (hblk : w.heap[g]? = some (.cells (news.map (Value.int .i64)).toArray 3 (0, 0)))
    (hb : xs.length + m ≤ 4294967296) (hbase : B ≤ w.heap.size)
    (h : ∀ v' w', Ints w' B v' (xs ++ news) → w.grownBy w' v.ownBlock → K (a.put o.dst v') w') :
    if Region.wanted o (yielded ops a.tmps) = true then Oper.wp Tryz.prog o a w K Q else E := by
  have hw : Region.wanted o (yielded ops a.tmps) = true := by simp [Region.wanted, hgd]
  rw [if_pos hw]
  exact wp_app_ints s x ho B v xs hs hown g m news hx hl hblk hb hbase h
theorem below_appi {W w w' : World} {v : Value} {xs : List Int} (hB : Below W.heap.size W w) (hs : Ints w W.heap.size v xs) (hg : w.grownBy w' v.ownBlock) : Below W.heap.size W w' :=
  hB.grown hg hB.size (fun _ hk => (World.ownsRow.lt hs _ hk).1)

/-! ### the set of numbers that were seen -/
end Go.Proofs.YtldgjljecbohoaaGreatDoor

/- slices.IndexFunc, ContainsFunc at []string, with a function value of three captured variables (printed by wip/mk_cfs.py). -/
set_option linter.unusedVariables false
namespace Go.Proofs.YtldgjljecbohoaaGreatDoor
open Go.RowKit
set_option maxRecDepth 100000 in
set_option maxHeartbeats 2000000 in
theorem ifS3_any (FN : Nat) (c1 c2 c3 : Value) (el : Nat → Value) (b : Nat → Bool) (n c g o : Nat) (w : World) (hn : n ≤ 4294967296) (hgl : g < w.heap.size) (hc : ∀ i, i < n → w.cell? ⟨g, o + i, none⟩ = some (el i))
    (hcf : ∀ (args : Array Value) (W : World), (callFunc FN args).run Tryz.prog W = .ok (.enter FN args) W)
    (H : Hid (∀ i W, i < n → Below w.heap.size w W → Calls Tryz.prog FN #[(el i), c1, c2, c3] W fun e W' => e = .returned (.bool (b i)) ∧ Below W.heap.size W W')) :
    Calls Tryz.prog 229 #[.slice (some ⟨g, o, none⟩) n c, .func (.func FN) #[] #[c1, c2, c3]] w fun e w' => ∃ z : Int, e = .returned (.int .i64 z) ∧ decide (0 ≤ z) = (List.range n).any b ∧ Below w.heap.size w w' := by
  have HC := hide hc
  clear hc
  go_enter Tryz.func229, Tryz.ntmps229
  go_wp2
  go_loopw [8] (fun iv wr => ∃ i : Nat, iv = .int .i64 i ∧ i ≤ n ∧ Hid (∀ j, j < i → b j = false) ∧ Below w.heap.size w wr) (fun iv _ => n - (intOf iv).toNat)
  case atStart => exact ⟨0, rfl, Nat.zero_le _, hide fun j h => absurd h (by omega), Below.refl _ _⟩
  case round =>
    obtain ⟨i, rfl, hi, hJ, hB⟩ := hrel
    by_cases hlt : i < n
    · have hi0 : (0 : Int) ≤ (i : Int) := by omega
      have hi1 : (i : Int) < (n : Int) := by omega
      have y0 := (hB.cell (p := ⟨g, o + i, none⟩) hgl).trans (HC.out i hlt)
      have HF := hide (H.out i wr hlt hB)
      have HB := hide hB
      clear hB
      cases hb : b i with
      | true =>
        rw [hb] at HF
        have HA := hide (show (List.range n).any b = true by
          rw [List.any_eq_true]
          exact ⟨i, List.mem_range.2 hlt, hb⟩)
        clear hb
        go_wp2_with fail
        (with_reducible refine HF.out.mono ?_)
        rintro e w1 ⟨rfl, hB1⟩
        have HB1 := hide (HB.out.trans (hB1.mono HB.out.size))
        clear hB1
        go_wp2
        go_ret
        exact ⟨_, rfl, by rw [HA.out]; exact decide_eq_true hi0, HB1.out⟩
      | false =>
        rw [hb] at HF
        have HJ2 := hide (show ∀ j, j < i + 1 → b j = false from fun j hj => by
          rcases Nat.lt_or_ge j i with h | h
          · exact hJ.out j h
          · obtain rfl : j = i := by omega
            exact hb)
        clear hb hJ
        go_wp2_with fail
        (with_reducible refine HF.out.mono ?_)
        rintro e w1 ⟨rfl, hB1⟩
        have HB1 := hide (HB.out.trans (hB1.mono HB.out.size))
        clear hB1
        go_wp2
        go_roundw
        case rel => exact ⟨i + 1, by go_num, hlt, HJ2, HB1.out⟩
        case measure => simp [intOf]; omega
    · obtain rfl : i = n := by omega
      have HB := hide hB
      have HA := hide (show (List.range i).any b = false by
        rw [List.any_eq_false]
        intro j hj
        rw [hJ.out j (List.mem_range.1 hj)]
        simp)
      clear hB hJ
      go_wp2
      go_ret
      exact ⟨-1, rfl, by rw [HA.out]; rfl, HB.out⟩
set_option maxRecDepth 100000 in
set_option maxHeartbeats 1000000 in
theorem cfS3_any (FN : Nat) (c1 c2 c3 : Value) (el : Nat → Value) (b : Nat → Bool) (n c g o : Nat) (w : World) (hn : n ≤ 4294967296) (hgl : g < w.heap.size) (hc : ∀ i, i < n → w.cell? ⟨g, o + i, none⟩ = some (el i))
    (hcf : ∀ (args : Array Value) (W : World), (callFunc FN args).run Tryz.prog W = .ok (.enter FN args) W)
    (H : Hid (∀ i W, i < n → Below w.heap.size w W → Calls Tryz.prog FN #[(el i), c1, c2, c3] W fun e W' => e = .returned (.bool (b i)) ∧ Below W.heap.size W W')) :
    Calls Tryz.prog 171 #[.slice (some ⟨g, o, none⟩) n c, .func (.func FN) #[] #[c1, c2, c3]] w fun e w' => e = .returned (.bool ((List.range n).any b)) ∧ Below w.heap.size w w' := by
  have HI := hide (ifS3_any FN c1 c2 c3 el b n c g o w hn hgl hc hcf H)
  clear hc H hcf
  go_enter Tryz.func171, Tryz.ntmps171
  go_wp2_with fail
  (with_reducible refine HI.out.mono ?_)
  rintro e w1 ⟨z, rfl, hz, hB⟩
  have HZ := hide hz
  have HB := hide hB
  clear hz hB
  go_wp2
  go_ret
  exact ⟨by rw [← HZ.out]; rfl, HB.out⟩
end Go.Proofs.YtldgjljecbohoaaGreatDoor

/- decodable.readings: slices.Clone of ints, the predicate, the recursive closure, the iterator. -/
set_option linter.unusedVariables false
namespace Go.Proofs.YtldgjljecbohoaaGreatDoor
open Go.RowKit Go.Shelf
attribute [local go_sem] Oper.semAt_some
/-! ### slices.Clone of ints -/
theorem wpList_appI {w : World} {ops : Array Oper} {rest : List Oper} {o : Oper} {a : Act} {Q : Exit → Act → World → Prop} (hgd : o.guard = none) (s x : Operand)
    (ho : o.op = .call { callee := .builtin .append, args := #[s, x], argTypes := #[31, 31] })
    (B : Nat) (v : Value) (xs : List Int) (hs : a.eval s = v) (hown : Ints w B v xs)
    (g m cap : Nat) (news : List Int) (hx : a.eval x = .slice (some ⟨g, 0, none⟩) m cap) (hl : news.length = m) (hblk : ∀ k (hk : k < news.length), w.cell? ⟨g, k, none⟩ = some (.int .i64 news[k]))
    (hb : xs.length + m ≤ 4294967296) (hbase : B ≤ w.heap.size)
    (h : ∀ v' w', Ints w' B v' (xs ++ news) → w.grownBy w' v.ownBlock → (v'.ownBlock = v.ownBlock ∨ v'.ownBlock = some w.heap.size) → wpList Tryz.prog ops Q rest (a.put o.dst v') w') : wpList Tryz.prog ops Q (o :: rest) a w := by
  obtain ⟨i0, hi, hz0, hz1, hz2⟩ := info_parts infoIntA
  refine wpList_append_own_at w hgd s x 31 ho B 3 i0 _ 1 8 Tryz.underlying31 hi hz0 hz1 hz2 rfl (by decide) v xs.length (xs.map (Value.int .i64)) hs hown ⟨g, 0, none⟩ m cap (news.map (Value.int .i64)) hx (by simp [hl]) ?_ ?_ (by unfold maxLen; omega) (by omega) hbase ?_
  · intro j u hj
    have : (⟨g, 0, none⟩ : Addr).add j = ⟨g, j, none⟩ := by unfold Addr.add; split <;> simp_all
    rw [this]
    obtain ⟨hj1, hj2⟩ := List.getElem?_eq_some_iff.1 hj
    rw [List.length_map] at hj1
    rw [hblk j hj1, ← hj2, List.getElem_map]
  · intro u hu
    obtain ⟨b, _, rfl⟩ := List.mem_map.1 hu
    rfl
  · intro v' w' h1 h2 _ h4
    refine h v' w' ?_ h2 h4
    unfold Ints
    rw [List.length_append, hl, List.map_append]
    exact h1
set_option maxRecDepth 100000 in
set_option maxHeartbeats 1000000 in
theorem cloneI_any (B : Nat) (v : Value) (zs : List Int) (w : World) (h : Ints w B v zs) (h0 : 0 < zs.length) (hm : zs.length ≤ 1000000) :
    Calls Tryz.prog 148 #[v] w fun e w' => ∃ v', e = .returned v' ∧ Ints w' w.heap.size v' zs ∧ w.grownBy w' none := by
  obtain ⟨g, cap, rfl, hbg, hgl⟩ := h.form h0
  have hc := fun k (hk : k < zs.length) => h.cell hk
  obtain ⟨Z, hZ⟩ : ∃ Z, w.heap.size = Z := ⟨_, rfl⟩
  have he : Ints (w.alloc (.cells #[] 3)) Z (.slice (some ⟨Z, 0, none⟩) 0 0) [] := Ints.empty_ hZ (Nat.le_refl _)
  have hcc := fun k (hk : k < zs.length) => (World.cell?_alloc_lt w (.cells #[] 3) ⟨g, k, none⟩ hgl).trans (hc k hk)
  rw [hZ] at hgl ⊢
  have q22 : ∀ (w : World) (a : Option Addr) (n c n' c' : Nat), (binOp .eql 31 (.slice a n c) (.slice none n' c')).run Tryz.prog w = .ok (.bool a.isNone) w := fun w a n c n' c' => Lib.run_eql_slice_nil w _ _ a n c n' c' Tryz.underlying31
  clear h
  go_enter Tryz.func148, Tryz.ntmps148
  go_wp2_with (at_builtin; refine wpList_appI rfl _ _ rfl Z _ [] rfl he g zs.length cap zs rfl rfl hcc (by simp; omega) (by simp [hZ]) ?_; intro v' w' hS hg hv)
  obtain ⟨ad, cp, rfl⟩ := hS.shape
  have HS := hide hS
  have hg' : (w.alloc (.cells #[] 3)).grownBy w' (some Z) := hg
  have HG := hide (show w.grownBy w' none from ⟨hg'.os, hg'.tape, hg'.output, Nat.le_trans (by simp) hg'.size, fun k hk _ => (hg'.block k (by simp; omega) (by simp; omega)).trans (Below.heap_alloc _ _ _ hk)⟩)
  clear hg hg' hv hS
  go_ret
  exact ⟨_, rfl, by simpa using HS.out, HG.out⟩
/-! ### the predicate -/
/-- the word s has x at the place i -/
def pfB (s : ByteArray) (i : Nat) (x : ByteArray) : Bool := Lib.hasPrefix (s.extract i s.size).data.toList x.data.toList
theorem pfB_size {s x : ByteArray} {i : Nat} (h : pfB s i x = true) (hi : i ≤ s.size) : i + x.size ≤ s.size := by
  unfold pfB Lib.hasPrefix at h
  have h1 := (List.isPrefixOf_iff_prefix.1 h).length_le
  have e1 : (s.extract i s.size).data.toList.length = s.size - i := by simp
  have e2 : x.data.toList.length = x.size := by simp
  omega
set_option maxRecDepth 100000 in
set_option maxHeartbeats 1000000 in
theorem rdPred_any (x s : ByteArray) (i bw bi bo bk : Nat) (ok : Nat → Bool) (w : World) (hi : i ≤ s.size) (hs : s.size ≤ 65536) (hw : w.cell? ⟨bw, 0, none⟩ = some (.string s)) (hic : w.cell? ⟨bi, 0, none⟩ = some (.int .i64 (i : Int)))
    (ho : w.cell? ⟨bo, 0, none⟩ = some (.slice (some ⟨bk, 0, none⟩) (s.size + 1) (s.size + 1))) (hk : ∀ j, j ≤ s.size → w.cell? ⟨bk, j, none⟩ = some (.bool (ok j))) :
    Calls Tryz.prog 172 #[.string x, .pointer (some ⟨bw, 0, none⟩), .pointer (some ⟨bi, 0, none⟩), .pointer (some ⟨bo, 0, none⟩)] w fun e w' => e = .returned (.bool (pfB s i x && ok (i + x.size))) ∧ w' = w := by
  have HP := hide (strings_HasPrefix (s.extract i s.size) x w)
  have hi0 : (0 : Int) ≤ (i : Int) := by omega
  have hi1 : (i : Int) ≤ (s.size : Int) := by omega
  cases hp : pfB s i x with
  | true =>
    have hsz := pfB_size hp hi
    unfold pfB at hp
    rw [hp] at HP
    obtain ⟨m, hm⟩ : ∃ m, i + x.size = m := ⟨_, rfl⟩
    have hkm := hk m (by omega)
    rw [hm]
    obtain ⟨b, hb⟩ : ∃ b, ok m = b := ⟨_, rfl⟩
    rw [hb] at hkm ⊢
    have q1 : IntKind.i64.wrap ((i : Int) + (x.size : Int)) = (m : Int) := by rw [IntWalk.i64_in _ (by omega)]; omega
    have q2 : (0 : Int) ≤ (m : Int) := by omega
    have q3 : (m : Int) < (s.size : Int) + 1 := by omega
    clear hb hp hk hm
    go_enter Tryz.func172, Tryz.ntmps172
    go_wp2_with fail
    (with_reducible refine HP.out.mono ?_)
    rintro e w' ⟨rfl, rfl⟩
    clear HP
    go_wp2
    go_ret
    exact ⟨rfl, rfl⟩
  | false =>
    unfold pfB at hp
    rw [hp] at HP
    clear hp hk
    go_enter Tryz.func172, Tryz.ntmps172
    go_wp2_with fail
    (with_reducible refine HP.out.mono ?_)
    rintro e w' ⟨rfl, rfl⟩
    clear HP
    go_wp2
    go_ret
    exact ⟨rfl, rfl⟩
end Go.Proofs.YtldgjljecbohoaaGreatDoor

/- decodable.readings: the recursive closure 'read'. -/
set_option linter.unusedVariables false
namespace Go.Proofs.YtldgjljecbohoaaGreatDoor
open Go.RowKit Go.Shelf
attribute [local go_sem] Oper.semAt_some
theorem yieldAny {m : Nat} (m' : Nat) {P : Program} {l : Nat} {args : Array Value} {W : World} {R : Ending → World → Prop} (h : YieldAt Fence.wide m P l args W R) : YieldAt Fence.wide m' P l args W R := by
  obtain ⟨fn, tmps, assign, body, hy, hR⟩ := h
  exact ⟨fn, tmps, assign, body, hy, hR.1, fun c cs _ => hR.2 c cs (fun d h => by cases h)⟩
/-- what the places of a word can be read as -/
structure RdG (xs : List ByteArray) (s : ByteArray) (ok : Nat → Bool) (rd : Nat → List (List Int)) : Prop where
  ok_n : ok s.size = true
  ok_s : ∀ i, i < s.size → ok i = xs.any fun x => pfB s i x && ok (i + x.size)
  rd_n : rd s.size = [[]]
  rd_s : ∀ i, i < s.size → rd i = (List.range xs.length).flatMap fun k => if pfB s i (xs.getD k ⟨#[]⟩) && ok (i + (xs.getD k ⟨#[]⟩).size) then (rd (i + (xs.getD k ⟨#[]⟩).size)).map ((k : Int) :: ·) else []
  ne : ∀ x ∈ xs, x.size ≠ 0
/-- a row of ints that was handed over: the numbers, its block, its capacity -/
abbrev RdX := List Int × Nat × Nat
def encR (x : RdX) : Array Value := #[.slice (some ⟨x.2.1, 0, none⟩) x.1.length x.2.2]
def PreR (B : Nat) (x : RdX) (W : World) : Prop := Ints W B (.slice (some ⟨x.2.1, 0, none⟩) x.1.length x.2.2) x.1
def blkR (x : RdX) : Nat := x.2.1
/-- cells in S stay -/
structure KC (S : Nat → Prop) (W W' : World) : Prop where
  os : W'.os = W.os
  tape : W'.tape = W.tape
  output : W'.output = W.output
  size : W.heap.size ≤ W'.heap.size
  block : ∀ (k : Nat) (o : Obj), W.heap[k]? = some o → o.isCells = true → S k → W'.heap[k]? = some o
theorem KC.refl (S : Nat → Prop) (W : World) : KC S W W := ⟨rfl, rfl, rfl, Nat.le_refl _, fun _ _ h _ _ => h⟩
theorem KC.trans {S : Nat → Prop} {a b c : World} (h : KC S a b) (k : KC S b c) : KC S a c :=
  ⟨k.os.trans h.os, k.tape.trans h.tape, k.output.trans h.output, Nat.le_trans h.size k.size, fun i o hi hc hs => k.block i o (h.block i o hi hc hs) hc hs⟩
theorem KC.cell {S : Nat → Prop} {a w : World} (h : KC S a w) {p : Addr} {v : Value} (hp : a.cell? p = some v) (hs : S p.block) : w.cell? p = some v := by
  obtain ⟨o, ho, hc⟩ := cells_of_cell hp
  exact (World.cell?_of_block ((h.block _ o ho hc hs).trans ho.symm)).trans hp
theorem KC.frozen {S : Nat → Prop} {a w : World} (h : KC S a w) {p : Addr} {v : Value} {b : Bool} (hp : a.cell? p = some v) (hf : a.frozen? p = b) (hs : S p.block) : w.frozen? p = b := by
  obtain ⟨o, ho, hc⟩ := cells_of_cell hp
  exact (World.frozen?_of_block ((h.block _ o ho hc hs).trans ho.symm)).trans hf
theorem KC.ints {S : Nat → Prop} {a w : World} (h : KC S a w) {B : Nat} {v : Value} {zs : List Int} (hi : Ints a B v zs) (hs : ∀ g, v.ownBlock = some g → S g) : Ints w B v zs := by
  refine ⟨hi.1, ?_⟩
  rcases hi.2 with h' | ⟨g, cap, cur, rfl, h2, h3, h4⟩
  · exact .inl h'
  · exact .inr ⟨g, cap, cur, rfl, h2, h.block _ _ h3 rfl (hs g rfl), h4⟩
theorem kc_b {S : Nat → Prop} {w : World} (W : World) (l : Nat) (o o' : Obj) (hl : w.heap.size ≤ l) (h : W.heap[l]? = some o) (hc : o.isCells = false) (_ : o.isWalk = false) : KC S W (W.putObj l o') := by
  have hg := grownBy_putObj' W l o'
  refine ⟨hg.os, hg.tape, hg.output, hg.size, fun k x hx hxc _ => ?_⟩
  refine (hg.block k (Array.getElem?_eq_some_iff.1 hx).1 fun e => ?_).trans hx
  cases e
  rw [h] at hx; cases hx
  rw [hc] at hxc; cases hxc
def rdFn (bw by_ bl Zc bo br : Nat) : Value := .func (.func 174) #[] #[.pointer (some ⟨bw, 0, none⟩), .pointer (some ⟨by_, 0, none⟩), .pointer (some ⟨bl, 0, none⟩), .pointer (some ⟨Zc, 0, none⟩), .pointer (some ⟨bo, 0, none⟩), .pointer (some ⟨br, 0, none⟩)]
/-- what lies still while 'read' runs -/
structure REnv (l bw by_ bl Zc bo bk br : Nat) (s : ByteArray) (A : Option Addr) (xs : List ByteArray) (cap : Nat) (ok : Nat → Bool) (W : World) : Prop where
  w : W.cell? ⟨bw, 0, none⟩ = some (.string s)
  y : W.cell? ⟨by_, 0, none⟩ = some (.func (.yield l) #[] #[])
  c : W.cell? ⟨Zc, 1, none⟩ = some (.slice A xs.length cap)
  row : RowT W A xs
  o : W.cell? ⟨bo, 0, none⟩ = some (.slice (some ⟨bk, 0, none⟩) (s.size + 1) (s.size + 1))
  k : ∀ j, j ≤ s.size → W.cell? ⟨bk, j, none⟩ = some (.bool (ok j))
  r : W.cell? ⟨br, 0, none⟩ = some (rdFn bw by_ bl Zc bo br)
/-- the blocks of it -/
def EB (bw by_ Zc bo bk br : Nat) (A : Option Addr) (k : Nat) : Prop := k = bw ∨ k = by_ ∨ k = Zc ∨ k = bo ∨ k = bk ∨ k = br ∨ ∃ a, A = some a ∧ k = a.block
theorem REnv.keptB {l bw by_ bl Zc bo bk br : Nat} {s : ByteArray} {A : Option Addr} {xs : List ByteArray} {cap : Nat} {ok : Nat → Bool} {W W' : World} (h : REnv l bw by_ bl Zc bo bk br s A xs cap ok W) (hz : W.heap.size ≤ W'.heap.size)
    (hk : ∀ (p : Addr) (v : Value), EB bw by_ Zc bo bk br A p.block → W.cell? p = some v → W'.cell? p = some v) : REnv l bw by_ bl Zc bo bk br s A xs cap ok W' := by
  refine ⟨hk _ _ (.inl rfl) h.w, hk _ _ (.inr (.inl rfl)) h.y, hk _ _ (.inr (.inr (.inl rfl))) h.c, fun h0 => ?_, hk _ _ (.inr (.inr (.inr (.inl rfl)))) h.o, fun j hj => hk _ _ (.inr (.inr (.inr (.inr (.inl rfl))))) (h.k j hj), hk _ _ (.inr (.inr (.inr (.inr (.inr (.inl rfl)))))) h.r⟩
  obtain ⟨b, o, rfl, hb, hc⟩ := h.row h0
  exact ⟨b, o, rfl, Nat.lt_of_lt_of_le hb hz, fun k hkk => hk _ _ (.inr (.inr (.inr (.inr (.inr (.inr ⟨_, rfl, rfl⟩)))))) (hc k hkk)⟩
theorem REnv.grown {l bw by_ bl Zc bo bk br : Nat} {s : ByteArray} {A : Option Addr} {xs : List ByteArray} {cap : Nat} {ok : Nat → Bool} {W W' : World} {row : Option Nat} (h : REnv l bw by_ bl Zc bo bk br s A xs cap ok W) (hg : W.grownBy W' row) (hne : ∀ k, EB bw by_ Zc bo bk br A k → some k ≠ row) : REnv l bw by_ bl Zc bo bk br s A xs cap ok W' :=
  h.keptB hg.size fun p v hp hc => hg.cell hc (hne _ hp)
theorem REnv.kc {l bw by_ bl Zc bo bk br : Nat} {s : ByteArray} {A : Option Addr} {xs : List ByteArray} {cap : Nat} {ok : Nat → Bool} {W W' : World} {S : Nat → Prop} (h : REnv l bw by_ bl Zc bo bk br s A xs cap ok W) (hg : KC S W W') (hS : ∀ k, EB bw by_ Zc bo bk br A k → S k) : REnv l bw by_ bl Zc bo bk br s A xs cap ok W' :=
  h.keptB hg.size fun p v hp hc => hg.cell hc (hS _ hp)
/-- the list of the numbers so far, in its variable -/
structure LSt (W : World) (bl B : Nat) (v : Value) (p : List Int) : Prop where
  c : W.cell? ⟨bl, 0, none⟩ = some v
  f : W.frozen? ⟨bl, 0, none⟩ = false
  i : Ints W B v p
  b : bl < B
  z : B ≤ W.heap.size
theorem Ints.own_ge {w : World} {B g : Nat} {v : Value} {xs : List Int} (h : Ints w B v xs) (hg : v.ownBlock = some g) : B ≤ g ∧ ∃ cs, w.heap[g]? = some (.cells cs 3 (0, 0)) := by
  rcases h.2 with ⟨rfl, _⟩ | ⟨g', cap, cur, rfl, hb, hh, _⟩
  · cases hg
  · obtain rfl : g' = g := by simpa [Value.ownBlock] using hg
    exact ⟨hb, _, hh⟩
theorem LSt.grown {W W' : World} {bl B : Nat} {v : Value} {p : List Int} {row : Option Nat} (h : LSt W bl B v p) (hg : W.grownBy W' row) (h1 : some bl ≠ row) (h2 : ∀ g, v.ownBlock = some g → some g ≠ row) : LSt W' bl B v p :=
  ⟨hg.cell h.c h1, (World.frozen?_of_block (hg.block bl (World.block_lt_of_cell? W _ h.c) h1)).trans h.f, World.ownsRow.kept h.i hg (by
    cases hv : v.ownBlock with
    | none => exact .inl rfl
    | some g => exact .inr (h2 g hv)), h.b, Nat.le_trans h.z hg.size⟩
theorem LSt.kc {W W' : World} {bl B : Nat} {v : Value} {p : List Int} {S : Nat → Prop} (h : LSt W bl B v p) (hg : KC S W W') (h1 : S bl) (h2 : ∀ g, B ≤ g → S g) : LSt W' bl B v p :=
  ⟨hg.cell h.c h1, hg.frozen h.c h.f h1, hg.ints h.i fun g hv => h2 g (h.i.own_ge hv).1, h.b, Nat.le_trans h.z hg.size⟩
/-- the rows handed over are apart from the variable and from its row -/
def Fr (W : World) (bl : Nat) (v : Value) (pre : List RdX) : Prop := ∀ x ∈ pre, x.2.1 < W.heap.size ∧ x.2.1 ≠ bl ∧ v.ownBlock ≠ some x.2.1
theorem Fr.up {W W' : World} {bl : Nat} {v : Value} {pre : List RdX} (h : Fr W bl v pre) (hz : W.heap.size ≤ W'.heap.size) : Fr W' bl v pre := fun x hx => ⟨Nat.lt_of_lt_of_le (h x hx).1 hz, (h x hx).2⟩
theorem Ints.cut {w : World} {B g n cap : Nat} {p : List Int} {x : Int} (h : Ints w B (.slice (some ⟨g, 0, none⟩) n cap) (p ++ [x])) : Ints w B (.slice (some ⟨g, 0, none⟩) p.length cap) p := by
  rcases h.2 with ⟨e, _⟩ | ⟨g', cap', cur, e, h2, h3, h4, h5, h6, h7⟩
  · cases e
  · simp only [Value.slice.injEq, Option.some.injEq, Addr.mk.injEq, and_true, true_and] at e
    obtain ⟨rfl, e2, rfl⟩ := e
    rw [List.length_append] at h4 h7
    refine ⟨by simp, .inr ⟨g, cap, cur, rfl, h2, h3, by simp at h4; omega, h5, h6, ?_⟩⟩
    have := congrArg (List.take p.length) h7
    rw [List.take_take, List.map_append, List.take_left' (by simp)] at this
    rw [Nat.mul_one]
    rw [← this]
    congr 1
    simp
def rdStep (xs : List ByteArray) (s : ByteArray) (ok : Nat → Bool) (rd : Nat → List (List Int)) (i k : Nat) : List (List Int) :=
  if pfB s i (xs.getD k ⟨#[]⟩) && ok (i + (xs.getD k ⟨#[]⟩).size) then (rd (i + (xs.getD k ⟨#[]⟩).size)).map ((k : Int) :: ·) else []
def rdP (xs : List ByteArray) (s : ByteArray) (ok : Nat → Bool) (rd : Nat → List (List Int)) (i k : Nat) : List (List Int) := (List.range k).flatMap (rdStep xs s ok rd i)
theorem rdP_succ (xs : List ByteArray) (s : ByteArray) (ok : Nat → Bool) (rd : Nat → List (List Int)) (i k : Nat) : rdP xs s ok rd i (k + 1) = rdP xs s ok rd i k ++ rdStep xs s ok rd i k := by
  unfold rdP
  rw [List.range_succ, List.flatMap_append]
  simp
theorem rdP_pre (xs : List ByteArray) (s : ByteArray) (ok : Nat → Bool) (rd : Nat → List (List Int)) (i : Nat) {k n : Nat} (h : k ≤ n) : rdP xs s ok rd i k <+: rdP xs s ok rd i n := by
  induction n with
  | zero => obtain rfl : k = 0 := by omega
            exact List.prefix_refl _
  | succ n ih =>
    rcases Nat.lt_or_ge n k with h1 | h1
    · obtain rfl : k = n + 1 := by omega
      exact List.prefix_refl _
    · rw [rdP_succ]
      exact (ih h1).trans (List.prefix_append _ _)
theorem grownBy_drew (W : World) (row : Option Nat) : W.grownBy W.drew row := ⟨rfl, rfl, rfl, Nat.le_refl _, fun _ _ _ => rfl⟩
/-- the answer of 'read' -/
def RdPost (l bw by_ bl Zc bo bk br B : Nat) (s : ByteArray) (A : Option Addr) (xs : List ByteArray) (cap : Nat) (ok : Nat → Bool) (rd : Nat → List (List Int)) (J Jx : List RdX → World → Prop) (i : Nat) (pre : List RdX) (p : List Int) (W : World) (e : Ending) (W' : World) : Prop :=
  (∃ ys v', e = .returned (.bool true) ∧ ys.map Prod.fst = (rd i).map (p ++ ·) ∧ J (pre ++ ys) W' ∧ REnv l bw by_ bl Zc bo bk br s A xs cap ok W' ∧ LSt W' bl B v' p ∧ Fr W' bl v' (pre ++ ys) ∧ W.heap.size ≤ W'.heap.size) ∨
  (∃ ys, e = .returned (.bool false) ∧ ys.map Prod.fst <+: (rd i).map (p ++ ·) ∧ Jx (pre ++ ys) W')
set_option maxRecDepth 100000 in
set_option maxHeartbeats 4000000 in
theorem read_in (l bw by_ bl Zc bo bk br B B0 : Nat) (s : ByteArray) (A : Option Addr) (xs : List ByteArray) (cap : Nat) (ok : Nat → Bool) (rd : Nat → List (List Int)) (hRd : RdG xs s ok rd) (hxn : xs.length ≤ 64) (hss : s.size ≤ 65536) (hs0 : 0 < s.size)
    (S : Nat → Prop) (hSE : ∀ k, EB bw by_ Zc bo bk br A k → S k) (hSl : S bl) (hSB : ∀ g, B ≤ g → S g) (hEB : ∀ k, EB bw by_ Zc bo bk br A k → k < B ∧ k ≠ bl) (hB0 : B0 ≤ bl)
    (J Jx : List RdX → World → Prop) (hJ : AbidesB B0 blkR J)
    (hY : ∀ pre x W, J pre W → PreR B x W → YieldAt Fence.wide 0 Tryz.prog l (encR x) W fun e W' => (e = .returned (.bool true) ∧ J (pre ++ [x]) W' ∧ KC S W W') ∨ (e = .returned (.bool false) ∧ Jx (pre ++ [x]) W')) :
    ∀ (fuel i : Nat), i ≤ s.size → s.size - i < fuel → ∀ (pre : List RdX) (p : List Int) (v : Value) (W : World), REnv l bw by_ bl Zc bo bk br s A xs cap ok W → LSt W bl B v p → Fr W bl v pre → J pre W → p.length ≤ i → (i = 0 ∨ 0 < p.length) →
      ∀ n, CallsIn Fence.wide n Tryz.prog 174 #[.int .i64 (i : Int), .pointer (some ⟨bw, 0, none⟩), .pointer (some ⟨by_, 0, none⟩), .pointer (some ⟨bl, 0, none⟩), .pointer (some ⟨Zc, 0, none⟩), .pointer (some ⟨bo, 0, none⟩), .pointer (some ⟨br, 0, none⟩)] W
        (RdPost l bw by_ bl Zc bo bk br B s A xs cap ok rd J Jx i pre p W) := by
  intro fuel
  induction fuel with
  | zero => intro i _ h; omega
  | succ fuel ih =>
    intro i hi hf pre p v W hE hL hF hj hpi hp0 n
    by_cases hin : i = s.size
    · have hp : 0 < p.length := by omega
      subst hin
      have hyc := hE.y
      have hwc := hE.w
      have hlc := hL.c
      have hmo : Tryz.prog.follows .mixedOrders = true := by kernel_rfl
      have hiD : Ints W.drew B v p := hL.i
      have HC := hide (callsIn_wide (n := n - 1).2 (cloneI_any B v p W.drew hiD hp (by omega)))
      have HAft := hide (fun (w1 : World) (v1 : Value) (hS1 : Ints w1 W.drew.heap.size v1 p) (hg1 : W.drew.grownBy w1 none) => show ∃ g cp, v1 = .slice (some ⟨g, 0, none⟩) p.length cp ∧ w1.cell? ⟨by_, 0, none⟩ = some (.func (.yield l) #[] #[]) ∧
          YieldAt Fence.wide (n - 1) Tryz.prog l #[.slice (some ⟨g, 0, none⟩) p.length cp] w1 fun e W' => ∃ b : Bool, e = .returned (.bool b) ∧ RdPost l bw by_ bl Zc bo bk br B s A xs cap ok rd J Jx s.size pre p W (.returned (.bool b)) W' from by
        have hgW : W.grownBy w1 none := (grownBy_drew W none).trans hg1
        obtain ⟨g, cp, rfl, hbg, hgl⟩ := hS1.form hp
        have hE1 := hE.grown hgW (by simp)
        have hL1 := hL.grown hgW (by simp) (by simp)
        have hj1 : J pre w1 := hJ pre W w1 none hj hgW (fun r e => by cases e)
        have hzD : W.drew.heap.size = W.heap.size := rfl
        have hPre : PreR B (p, g, cp) w1 := by
          refine ⟨hS1.1, ?_⟩
          rcases hS1.2 with ⟨e, _⟩ | ⟨g', cap', cur, e, h2, h3⟩
          · cases e
          · exact .inr ⟨g', cap', cur, e, by have := hL.z; omega, h3⟩
        refine ⟨g, cp, rfl, hE1.y, (yieldAny (n - 1) (hY pre (p, g, cp) w1 hj1 hPre)).mono ?_⟩
        rintro e W' (⟨rfl, hJ', hk⟩ | ⟨rfl, hJx'⟩)
        · refine ⟨true, rfl, .inl ⟨[(p, g, cp)], v, rfl, by rw [hRd.rd_n]; simp, hJ', hE1.kc hk hSE, hL1.kc hk hSl hSB, ?_, Nat.le_trans hgW.size hk.size⟩⟩
          intro x hx
          rcases List.mem_append.1 hx with hx | hx
          · obtain ⟨h1, h2, h3⟩ := hF x hx
            exact ⟨Nat.lt_of_lt_of_le h1 (Nat.le_trans hgW.size hk.size), h2, h3⟩
          · obtain rfl : x = (p, g, cp) := by simpa using hx
            refine ⟨Nat.lt_of_lt_of_le hgl hk.size, ?_, fun e => ?_⟩
            · have := hL.b
              have := hL.z
              show g ≠ bl
              omega
            · obtain ⟨_, cs, hcs⟩ := hL.i.own_ge e
              have : g < W.heap.size := (Array.getElem?_eq_some_iff.1 hcs).1
              omega
        · exact ⟨false, rfl, .inr ⟨[(p, g, cp)], rfl, by rw [hRd.rd_n]; simp, hJx'⟩⟩)
      clear hE hL hF hj hY ih hJ
      refine callsIn_of_wp Tryz.func174 rfl trivial ?_ rfl
      simp only [Tryz.ntmps174, List.size_toArray, List.length_cons, List.length_nil, Nat.reduceAdd, Nat.reduceSub, Array.replicate_succ, Array.replicate_zero, List.push_toArray, List.append_toArray, List.nil_append, List.cons_append]
      gi_wp2
      gi_region_with_o (first
        | (refine ⟨trivial, (fun h => nomatch h), ?_⟩; gi_at_call 148; refine HC.out.mono ?_; rintro e w1 ⟨v1, rfl, hS1, hg1⟩; obtain ⟨g, cp, rfl, hy1, fn, tmps, assign, body, hy, hR⟩ := HAft.out w1 v1 hS1 hg1)
        | (refine ⟨(fun h => nomatch h), ?_⟩; refine hR.mono ?_; rintro e W' ⟨b, rfl, hpost⟩))
      all_goals (gi_wp2; go_ret; exact hpost)
    · have hil : i < s.size := by omega
      have hrd : rd i = rdP xs s ok rd i xs.length := hRd.rd_s i hil
      have hz0 : W.heap.size ≤ W.heap.size := Nat.le_refl _
      have hnl : ((i : Int) == (s.size : Int)) = false := by rw [beq_eq_false_iff_ne]; omega
      have hwc := hE.w
      have hcc := hE.c
      refine callsIn_of_wp Tryz.func174 rfl trivial ?_ rfl
      refine wpIn_wide.2 ?_
      simp only [Tryz.ntmps174, List.size_toArray, List.length_cons, List.length_nil, Nat.reduceAdd, Nat.reduceSub, Array.replicate_succ, Array.replicate_zero, List.push_toArray, List.append_toArray, List.nil_append, List.cons_append]
      have HE := hide hE
      have HL := hide hL
      have HF := hide hF
      have HJ := hide hj
      have HIH := hide ih
      clear hE hL hF hj ih
      go_wp2
      go_loopw [22] (fun kv wr => ∃ (k : Nat) (ys : List RdX) (v : Value), kv = .int .i64 (k : Int) ∧ k ≤ xs.length ∧ Hid (ys.map Prod.fst = (rdP xs s ok rd i k).map (p ++ ·)) ∧ Hid (J (pre ++ ys) wr) ∧ Hid (REnv l bw by_ bl Zc bo bk br s A xs cap ok wr) ∧ Hid (LSt wr bl B v p) ∧ Hid (Fr wr bl v (pre ++ ys)) ∧ Hid (W.heap.size ≤ wr.heap.size)) (fun kv _ => xs.length - (intOf kv).toNat)
      case atStart => exact ⟨0, [], v, rfl, Nat.zero_le _, hide (by simp [rdP]), hide (by rw [List.append_nil]; exact HJ.out), HE, HL, hide (by rw [List.append_nil]; exact HF.out), hide hz0⟩
      case round =>
        obtain ⟨k, ys, v, rfl, hk, HYs, HJ, HE, HL, HF, HZ⟩ := hrel
        by_cases hlt : k < xs.length
        · have hk0 : (0 : Int) ≤ (k : Int) := by omega
          have hk1 : (k : Int) < (xs.length : Int) := by omega
          have hi0 : (0 : Int) ≤ (i : Int) := by omega
          have hi1 : (i : Int) ≤ (s.size : Int) := by omega
          obtain ⟨b, o, hAb, hbl, hcell⟩ := HE.out.row (by omega)
          have hxc := hcell k hlt
          have HG := hide (show xs.getD k ⟨#[]⟩ = xs[k] by simp [hlt])
          obtain ⟨x, hx⟩ : ∃ x, xs[k] = x := ⟨_, rfl⟩
          have HX0 := hide (show x.size ≠ 0 from hRd.ne x (by rw [← hx]; exact List.getElem_mem _))
          rw [hx] at hxc HG
          have hwc1 := HE.out.w
          have HP := hide (strings_HasPrefix (s.extract i s.size) x wr)
          clear hx hcell hbl
          subst hAb
          cases hp : pfB s i x with
          | false =>
            have HYs2 := hide (show ys.map Prod.fst = (rdP xs s ok rd i (k + 1)).map (p ++ ·) by
              rw [rdP_succ, rdStep, HG.out, hp]
              simpa using HYs.out)
            unfold pfB at hp
            rw [hp] at HP
            clear hp
            go_wp2_with fail
            (with_reducible refine HP.out.mono ?_)
            rintro e w' ⟨rfl, rfl⟩
            go_wp2
            go_roundw
            case rel => exact ⟨k + 1, ys, v, by go_num, hlt, HYs2, HJ, HE, HL, HF, HZ⟩
            case measure => simp [intOf]; omega
          | true =>
            have hpx := pfB_size hp hi
            obtain ⟨m, hm⟩ : ∃ m, i + x.size = m := ⟨_, rfl⟩
            have hoc := HE.out.o
            have hkm := HE.out.k m (by omega)
            have q1 : IntKind.i64.wrap ((i : Int) + (x.size : Int)) = (m : Int) := by rw [IntWalk.i64_in _ (by omega)]; omega
            have q2 : (0 : Int) ≤ (m : Int) := by omega
            have q3 : (m : Int) < (s.size : Int) + 1 := by omega
            cases hok : ok m with
            | false =>
              have HYs2 := hide (show ys.map Prod.fst = (rdP xs s ok rd i (k + 1)).map (p ++ ·) by
                rw [rdP_succ, rdStep, HG.out, hp, hm, hok]
                simpa using HYs.out)
              rw [hok] at hkm
              unfold pfB at hp
              rw [hp] at HP
              clear hp hok hm
              go_wp2_with fail
              (with_reducible refine HP.out.mono ?_)
              rintro e w' ⟨rfl, rfl⟩
              go_wp2
              go_roundw
              case rel => exact ⟨k + 1, ys, v, by go_num, hlt, HYs2, HJ, HE, HL, HF, HZ⟩
              case measure => simp [intOf]; omega
            | true =>
              have HR1 := hide (show rdP xs s ok rd i (k + 1) = rdP xs s ok rd i k ++ (rd m).map ((k : Int) :: ·) by
                rw [rdP_succ, rdStep, HG.out, hp, hm, hok]; simp)
              rw [hok] at hkm
              unfold pfB at hp
              rw [hp] at HP
              have hlc := HL.out.c
              have hfc := HL.out.f
              have hrc := HE.out.r
              have hmi : i < m := by have := HX0.out; omega
              have HNext := hide (fun (w1 : World) (v1 : Value) (hS1 : Ints w1 B v1 (p ++ [(k : Int)])) (hg1 : (wr.alloc (.cells #[.int .i64 (k : Int)] 3)).grownBy w1 v.ownBlock) (hv1 : v1.ownBlock = v.ownBlock ∨ v1.ownBlock = some (wr.alloc (.cells #[.int .i64 (k : Int)] 3)).heap.size) =>
                show (w1.cell? ⟨bl, 0, none⟩ = some v ∧ w1.frozen? ⟨bl, 0, none⟩ = false) ∧ REnv l bw by_ bl Zc bo bk br s (some ⟨b, o, none⟩) xs cap ok (w1.setCell ⟨bl, 0, none⟩ v1) ∧ LSt (w1.setCell ⟨bl, 0, none⟩ v1) bl B v1 (p ++ [(k : Int)]) ∧ Fr (w1.setCell ⟨bl, 0, none⟩ v1) bl v1 (pre ++ ys) ∧ J (pre ++ ys) (w1.setCell ⟨bl, 0, none⟩ v1) ∧ W.heap.size ≤ (w1.setCell ⟨bl, 0, none⟩ v1).heap.size from by
                have hA1 := World.grownBy_alloc wr (.cells #[.int .i64 (k : Int)] 3) v.ownBlock
                have hW1 : wr.grownBy w1 v.ownBlock := hA1.trans hg1
                have hob : ∀ q, q < B → some q ≠ v.ownBlock := fun q hq e => by have := (HL.out.i.own_ge e.symm).1; omega
                have hblb := HL.out.b
                have hc1 := hW1.cell hlc (hob bl hblb)
                have hf1 : w1.frozen? ⟨bl, 0, none⟩ = false := (World.frozen?_of_block (hW1.block bl (World.block_lt_of_cell? wr _ hlc) (hob bl hblb))).trans hfc
                have hg2 := grown_set w1 bl v1
                have hE1 := (HE.out.grown hW1 fun q hq => hob q (hEB q hq).1).grown hg2 fun q hq e => (hEB q hq).2 (by simpa using e)
                have hz2 : wr.heap.size ≤ (w1.setCell ⟨bl, 0, none⟩ v1).heap.size := Nat.le_trans hW1.size hg2.size
                have hne1 : v1.ownBlock ≠ some bl := fun e => by have := (hS1.own_ge e).1; omega
                refine ⟨⟨hc1, hf1⟩, hE1, ⟨World.cell?_setCell_same _ _ _ hc1, by rw [World.frozen?_setCell]; exact hf1, World.ownsRow.kept hS1 hg2 (.inr hne1), hblb, Nat.le_trans HL.out.z hz2⟩, fun y hy => ?_, ?_, Nat.le_trans HZ.out hz2⟩
                · obtain ⟨h1, h2, h3⟩ := HF.out y hy
                  refine ⟨Nat.lt_of_lt_of_le h1 hz2, h2, fun e => ?_⟩
                  rcases hv1 with hv1 | hv1
                  · exact h3 (hv1 ▸ e)
                  · rw [hv1] at e
                    simp at e
                    omega
                · refine hJ _ w1 _ (some bl) (hJ _ wr w1 v.ownBlock HJ.out hW1 fun r e => ?_) hg2 fun r e => ?_
                  · obtain ⟨h1, cs, h2⟩ := HL.out.i.own_ge e
                    exact ⟨by omega, _, h2, .inr ⟨rfl, fun y hy e2 => (HF.out y hy).2.2 (by rw [e, ← e2]; rfl)⟩⟩
                  · cases e
                    obtain ⟨o1, ho1, hc2⟩ := cells_of_cell hc1
                    exact ⟨hB0, o1, ho1, .inr ⟨hc2, fun y hy => (HF.out y hy).2.1⟩⟩)
              have hbn : v.ownBlock = none ∨ True := .inr trivial
              have hown1 : Ints (wr.alloc (.cells #[.int .i64 (k : Int)] 3)) B v p := HL.out.i.alloc _
              have hnew : ∀ j (hj : j < [(k : Int)].length), (wr.alloc (.cells #[.int .i64 (k : Int)] 3)).cell? ⟨wr.heap.size, j, none⟩ = some (.int .i64 [(k : Int)][j]) := fun j hj => by
                have : j = 0 := by simpa using hj
                subst this
                exact cell_of_one (heap_at wr _ _ rfl)
              have hzB := HL.out.z
              have hpl : p.length ≤ 65536 := by omega
              clear hp hok hm hbn
              go_wp2_with fail
              (with_reducible refine HP.out.mono ?_)
              rintro e w' ⟨rfl, rfl⟩
              clear HP
              go_wp2_with (at_builtin; refine wpList_appI rfl _ _ rfl B v p rfl hown1 w'.heap.size 1 1 [(k : Int)] rfl rfl hnew (by omega) (by simp; omega) ?_; intro v1 w1 hS1 hg1 hv1; obtain ⟨⟨hc1, hf1⟩, hN⟩ := HNext.out w1 v1 hS1 hg1 hv1; obtain ⟨ad1, cp1, rfl⟩ := hS1.shape; simp only [List.length_append, List.length_cons, List.length_nil, Nat.zero_add] at hN; have HN := hide hN; have hr2 := hN.1.r; unfold rdFn at hr2; clear hN hS1 hg1 hv1)
              clear HNext
              (with_reducible refine (callsIn_wide.1 (HIH.out m (by omega) (by omega) (pre ++ ys) (p ++ [(k : Int)]) _ _ HN.out.1 HN.out.2.1 HN.out.2.2.1 HN.out.2.2.2.1 (by rw [List.length_append]; simp; omega) (.inr (by simp)) 0)).mono ?_)
              rintro e w3 (⟨ys2, v2, rfl, hys2, hJ2, hE2, hL2, hF2, hz2⟩ | ⟨ys2, rfl, hpre2, hJx2⟩)
              · obtain ⟨g2, cp2, rfl, hbg2, hgl2⟩ := hL2.i.form (by simp)
                have hlc2 := hL2.c
                have hfc2 := hL2.f
                have hcut := hL2.i.cut
                have hcp2 : p.length + 1 ≤ cp2 := by
                  rcases hL2.i.2 with ⟨e, _⟩ | ⟨g', cap', cur, e, h2, h3, h4, _⟩
                  · cases e
                  · simp only [Value.slice.injEq] at e
                    rw [e.2.2]
                    simpa using h4
                have hg4 := grown_set w3 bl (.slice (some ⟨g2, 0, none⟩) p.length cp2)
                have hE4 := hE2.grown hg4 fun q hq e => (hEB q hq).2 (by simpa using e)
                have hne4 : (Value.slice (some ⟨g2, 0, none⟩) p.length cp2).ownBlock ≠ some bl := fun e => by have := hL2.b; simp [Value.ownBlock] at e; omega
                have hL4 : LSt (w3.setCell ⟨bl, 0, none⟩ (.slice (some ⟨g2, 0, none⟩) p.length cp2)) bl B (.slice (some ⟨g2, 0, none⟩) p.length cp2) p :=
                  ⟨World.cell?_setCell_same _ _ _ hlc2, by rw [World.frozen?_setCell]; exact hfc2, World.ownsRow.kept hcut hg4 (.inr hne4), hL2.b, Nat.le_trans hL2.z hg4.size⟩
                have hF4 : Fr (w3.setCell ⟨bl, 0, none⟩ (.slice (some ⟨g2, 0, none⟩) p.length cp2)) bl (.slice (some ⟨g2, 0, none⟩) p.length cp2) (pre ++ (ys ++ ys2)) := fun y hy => by
                  rw [← List.append_assoc] at hy
                  obtain ⟨h1, h2, h3⟩ := hF2 y hy
                  exact ⟨Nat.lt_of_lt_of_le h1 hg4.size, h2, h3⟩
                have hJ4 : J (pre ++ (ys ++ ys2)) (w3.setCell ⟨bl, 0, none⟩ (.slice (some ⟨g2, 0, none⟩) p.length cp2)) := by
                  rw [← List.append_assoc]
                  refine hJ _ w3 _ (some bl) hJ2 hg4 fun r e => ?_
                  cases e
                  obtain ⟨o1, ho1, hc2⟩ := cells_of_cell hlc2
                  exact ⟨hB0, o1, ho1, .inr ⟨hc2, fun y hy => (hF2 y hy).2.1⟩⟩
                have HYs4 := hide (show (ys ++ ys2).map Prod.fst = (rdP xs s ok rd i (k + 1)).map (p ++ ·) by
                  rw [List.map_append, HYs.out, hys2, HR1.out, List.map_append, List.map_map]
                  congr 1
                  refine List.map_congr_left fun r _ => by simp)
                have HN4 := hide (And.intro hE4 (And.intro hL4 (And.intro hF4 (And.intro hJ4 (Nat.le_trans HN.out.2.2.2.2 (Nat.le_trans hz2 hg4.size))))))
                simp only [List.length_append, List.length_cons, List.length_nil, Nat.zero_add] at hlc2
                have q5 : IntKind.i64.wrap (((p.length : Int) + 1) - 1) = (p.length : Int) := by rw [IntWalk.i64_in _ (by omega)]; omega
                have q6 : (0 : Int) ≤ (p.length : Int) := by omega
                have q7 : (p.length : Int) ≤ (cp2 : Int) := by omega
                clear hE4 hL4 hF4 hJ4 hcut hE2 hL2 hF2 hJ2 hys2 hg4 HN hr2 hc1 hf1
                go_wp2
                go_roundw
                case rel => exact ⟨k + 1, ys ++ ys2, _, by go_num, hlt, HYs4, hide HN4.out.2.2.2.1, hide HN4.out.1, hide HN4.out.2.1, hide HN4.out.2.2.1, hide HN4.out.2.2.2.2⟩
                case measure => simp [intOf]; omega
              · have HEnd := hide (show (ys ++ ys2).map Prod.fst <+: (rd i).map (p ++ ·) by
                  rw [List.map_append, HYs.out, hrd]
                  refine List.IsPrefix.trans ?_ (List.IsPrefix.map _ (rdP_pre xs s ok rd i (show k + 1 ≤ xs.length from hlt)))
                  rw [HR1.out, List.map_append, List.prefix_append_right_inj]
                  refine hpre2.trans ?_
                  rw [List.map_map]
                  have : (fun r : List Int => (p ++ [(k : Int)]) ++ r) = ((fun r => p ++ r) ∘ fun r => (k : Int) :: r) := by funext r; simp
                  rw [this]
                  exact List.prefix_refl _)
                rw [List.append_assoc] at hJx2
                clear hpre2
                go_wp2
                go_ret
                exact .inr ⟨ys ++ ys2, rfl, HEnd.out, hJx2⟩
        · obtain rfl : k = xs.length := by omega
          go_wp2
          go_ret
          exact .inl ⟨ys, v, rfl, by rw [hrd]; exact HYs.out, HJ.out, HE.out, HL.out, HF.out, HZ.out⟩
end Go.Proofs.YtldgjljecbohoaaGreatDoor

/- decodable.readings and its iterator: for every loop body. -/
set_option linter.unusedVariables false
namespace Go.Proofs.YtldgjljecbohoaaGreatDoor
open Go.RowKit Go.Shelf
attribute [local go_sem] Oper.semAt_some
set_option maxHeartbeats 1000000 in
theorem readings_in (q : Int) (A : Option Addr) (n c : Nat) (s : ByteArray) (w : World) :
    Calls Tryz.prog 93 #[.agg #[.int .i64 q, .slice A n c], .string s] w fun e w' => e = .returned (.func (.func 170) #[] #[.pointer (some ⟨w.heap.size + 1, 0, none⟩), .pointer (some ⟨w.heap.size, 0, none⟩)]) ∧ w' = (w.alloc (.cells #[.int .i64 q, .slice A n c] 27)).alloc (.cells #[.string s] 9) := by
  go_enter Tryz.func93, Tryz.ntmps93
  go_wp2
  go_ret
  exact ⟨rfl, rfl⟩
theorem infoBoolZ : (Tryz.prog.info? 4).map (fun i => (i.zero, i.size, i.bytes)) = some (some (.bool false), 1, 1) := by kernel_rfl
theorem run_make_bools (n : Nat) (hn : n ≤ 70000) (w : World) :
    (Instr.makeSlice 223 (.int .i64 (n : Int)) (.int .i64 (n : Int))).run Tryz.prog w = .ok (.slice (some ⟨w.heap.size, 0, none⟩) n n) (w.alloc (.cells (Array.replicate n (.bool false)) 4)) := by
  obtain ⟨i0, hi, hz0, hz1, hz2⟩ := info_parts infoBoolZ
  have h := run_make (P := Tryz.prog) w 223 4 i0 _ Tryz.underlying223 hi hz0 .i64 .i64 n n (by omega) (by omega) (by rw [hz2]; omega) (by omega)
  simp only [Int.toNat_natCast, hz1, Nat.mul_one] at h
  rw [h, made_one _ rfl, List.toArray_replicate]
/-- what the table of the places holds while the place i is still to be done -/
def okTab (ok : Nat → Bool) (i j : Nat) : Bool := if i ≤ j then ok j else false
/-- the world in which the table is there -/
structure RdW (N l bw Zc cap : Nat) (s : ByteArray) (A : Option Addr) (xs : List ByteArray) (ok : Nat → Bool) (J : List RdX → World → Prop) (i : Nat) (W : World) : Prop where
  size : N + 3 ≤ W.heap.size
  w : W.cell? ⟨bw, 0, none⟩ = some (.string s)
  y : W.cell? ⟨N, 0, none⟩ = some (.func (.yield l) #[] #[])
  c : W.cell? ⟨Zc, 1, none⟩ = some (.slice A xs.length cap)
  row : RowT W A xs
  o : W.cell? ⟨N + 1 + 1, 0, none⟩ = some (.slice (some ⟨N + 1, 0, none⟩) (s.size + 1) (s.size + 1))
  k : ∀ j, j ≤ s.size → W.cell? ⟨N + 1, j, none⟩ = some (.bool (okTab ok i j)) ∧ W.frozen? ⟨N + 1, j, none⟩ = false
  j : J [] W
theorem grown_setO (w : World) (b o : Nat) (v : Value) : w.grownBy (w.setCell ⟨b, o, none⟩ v) (some b) :=
  ⟨rfl, rfl, rfl, by simp [World.setCell], fun k _ hne => Below.heap_setCell w ⟨b, o, none⟩ v k (by simpa using hne)⟩
theorem RdW.grown {N l bw Zc cap : Nat} {s : ByteArray} {A : Option Addr} {xs : List ByteArray} {ok : Nat → Bool} {J : List RdX → World → Prop} {i : Nat} {W W' : World} {row : Option Nat} (h : RdW N l bw Zc cap s A xs ok J i W) (hJ : AbidesB N blkR J)
    (hg : W.grownBy W' row) (hb : bw < N) (hc : Zc < N) (hA : ∀ a, A = some a → a.block < N) (hr : ∀ r, row = some r → N + 3 ≤ r ∧ ∃ o : Obj, W.heap[r]? = some o ∧ o.isCells = true) : RdW N l bw Zc cap s A xs ok J i W' := by
  have hne : ∀ k, k < N + 3 → some k ≠ row := fun k hk e => by have := (hr k e.symm).1; omega
  refine ⟨Nat.le_trans h.size hg.size, hg.cell h.w (hne _ (by show bw < _; omega)), hg.cell h.y (hne _ (by show N < _; omega)), hg.cell h.c (hne _ (by show Zc < _; omega)), fun h0 => ?_, hg.cell h.o (hne _ (by show N + 1 + 1 < _; omega)), fun j hj => ⟨hg.cell (h.k j hj).1 (hne _ (by show N + 1 < _; omega)), ?_⟩, hJ _ _ _ _ h.j hg fun r e => ?_⟩
  · obtain ⟨b, o, rfl, hbl, hcell⟩ := h.row h0
    have := hA _ rfl
    exact ⟨b, o, rfl, Nat.lt_of_lt_of_le hbl hg.size, fun k hk => hg.cell (hcell k hk) (hne _ (by show b < _; have : b < N := this; omega))⟩
  · exact (World.frozen?_of_block (hg.block (N + 1) (by have := h.size; omega) (hne _ (by omega)))).trans (h.k j hj).2
  · obtain ⟨h1, o, h2, h3⟩ := hr r e
    exact ⟨by omega, o, h2, .inr ⟨h3, fun x hx => nomatch hx⟩⟩
theorem RowT.kept3 {w w' : World} {A : Option Addr} {xs : List ByteArray} (h : RowT w A xs) (hg : w.grownBy w' none) : RowT w' A xs := by
  intro h0
  obtain ⟨b, o, rfl, hb, hc⟩ := h h0
  exact ⟨b, o, rfl, Nat.lt_of_lt_of_le hb hg.size, fun k hk => hg.cell (hc k hk) (by simp)⟩
theorem RdW.store {N l bw Zc cap : Nat} {s : ByteArray} {A : Option Addr} {xs : List ByteArray} {ok : Nat → Bool} {J : List RdX → World → Prop} {i : Nat} {W : World} (h : RdW N l bw Zc cap s A xs ok J (i + 1) W) (hJ : AbidesB N blkR J) (hi : i ≤ s.size)
    (hb : bw < N) (hc : Zc < N) (hA : ∀ a, A = some a → a.block < N) : RdW N l bw Zc cap s A xs ok J i (W.setCell ⟨N + 1, i, none⟩ (.bool (ok i))) := by
  have hg := grown_setO W (N + 1) i (.bool (ok i))
  have hne : ∀ k, k ≠ N + 1 → some k ≠ some (N + 1) := fun k hk e => hk (Option.some.inj e)
  refine ⟨Nat.le_trans h.size hg.size, hg.cell h.w (hne _ (by show bw ≠ _; omega)), hg.cell h.y (hne _ (by show N ≠ _; omega)), hg.cell h.c (hne _ (by show Zc ≠ _; omega)), fun h0 => ?_, hg.cell h.o (hne _ (by show N + 1 + 1 ≠ _; omega)), fun j hj => ⟨?_, ?_⟩, hJ _ _ _ _ h.j hg fun r e => ?_⟩
  · obtain ⟨b, o, rfl, hbl, hcell⟩ := h.row h0
    have := hA _ rfl
    exact ⟨b, o, rfl, Nat.lt_of_lt_of_le hbl hg.size, fun k hk => hg.cell (hcell k hk) (hne _ (by show b ≠ _; have : b < N := this; omega))⟩
  · by_cases e : j = i
    · subst e
      rw [okTab, if_pos (Nat.le_refl _)]
      exact World.cell?_setCell_same _ _ _ (h.k j hj).1
    · rw [World.cell?_setCell_other _ _ _ _ (fun e2 => by cases e2; exact e rfl), (h.k j hj).1]
      unfold okTab
      by_cases e2 : i ≤ j
      · rw [if_pos e2, if_pos (by omega)]
      · rw [if_neg e2, if_neg (by omega)]
  · rw [World.frozen?_setCell]; exact (h.k j hj).2
  · cases e
    obtain ⟨o1, ho1, hc2⟩ := cells_of_cell (h.k i hi).1
    exact ⟨by omega, o1, ho1, .inr ⟨hc2, fun x hx => nomatch hx⟩⟩
theorem any_getD {xs : List ByteArray} (f : ByteArray → Bool) : (List.range xs.length).any (fun k => f (xs.getD k ⟨#[]⟩)) = xs.any f := by
  induction xs with
  | nil => rfl
  | cons x xs ih =>
    rw [List.length_cons, List.range_succ_eq_map, List.any_cons, List.any_cons, List.any_map, ← ih]
    rfl
/-- the number in the variable to which a pointer leads -/
def ptrI (v : Value) (w : World) : Nat := match v with
  | .pointer (some a) => (intOf ((w.cell? a).getD undef) + 1).toNat
  | _ => 0
set_option maxRecDepth 100000 in
set_option maxHeartbeats 4000000 in
theorem readingsf_in (n l bw Zc cap : Nat) (s : ByteArray) (A : Option Addr) (xs : List ByteArray) (ok : Nat → Bool) (rd : Nat → List (List Int)) (hRd : RdG xs s ok rd) (hxn : xs.length ≤ 64) (hx0 : 0 < xs.length) (hss : s.size ≤ 65536) (hs0 : 0 < s.size) (hok0 : ok 0 = true)
    (S : Nat → Prop) (J Jx : List RdX → World → Prop) (W : World) (B1 : Nat) (hB1 : B1 ≤ W.heap.size) (hJ : AbidesB W.heap.size blkR J)
    (hSN : ∀ k, W.heap.size ≤ k → S k) (hSb : S bw) (hSz : S Zc) (hSA : ∀ a, A = some a → S a.block) (hbz : bw ≠ Zc)
    (hY : ∀ pre x W, J pre W → PreR B1 x W → YieldAt Fence.wide (n - 1) Tryz.prog l (encR x) W fun e W' => (e = .returned (.bool true) ∧ J (pre ++ [x]) W' ∧ KC S W W') ∨ (e = .returned (.bool false) ∧ Jx (pre ++ [x]) W'))
    (hw : W.cell? ⟨bw, 0, none⟩ = some (.string s)) (hc : W.cell? ⟨Zc, 1, none⟩ = some (.slice A xs.length cap)) (hrow : RowT W A xs) (h0 : J [] W) :
    CallsIn Fence.wide n Tryz.prog 170 #[.func (.yield l) #[] #[], .pointer (some ⟨bw, 0, none⟩), .pointer (some ⟨Zc, 0, none⟩)] W fun e W' => (∃ v, e = .returned v) ∧
      ((∃ ys, ys.map Prod.fst = rd 0 ∧ J ys W') ∨ (∃ pre, pre.map Prod.fst <+: rd 0 ∧ Jx pre W')) := by
  have hsf : ∀ (a : Addr) (m : Mode) (fn : Fn) (first cap : Array Value) (W : World), (store a (.func fn first cap) m).run Tryz.prog W = stored Tryz.prog W a (.func fn first cap) m := fun a m fn first cap W => run_store Tryz.prog W a _ m rfl
  obtain ⟨N, hN⟩ : ∃ N, W.heap.size = N := ⟨_, rfl⟩
  have hbw : bw < N := by have := World.block_lt_of_cell? W _ hw; rw [hN] at this; exact this
  have hbc : Zc < N := by have := World.block_lt_of_cell? W _ hc; rw [hN] at this; exact this
  have e1 : (W.alloc (.cells #[.func (.yield l) #[] #[]] 129)).cell? ⟨bw, 0, none⟩ = some (.string s) := (World.cell?_alloc_lt _ _ _ (by show bw < _; omega)).trans hw
  have q1 : IntKind.i64.wrap ((s.size : Int) + 1) = (s.size : Int) + 1 := IntWalk.i64_in _ (by omega)
  refine callsIn_of_wp Tryz.func170 rfl trivial ?_ rfl
  refine wpIn_wide.2 ?_
  simp only [Tryz.ntmps170, List.size_toArray, List.length_cons, List.length_nil, Nat.reduceAdd, Nat.reduceSub, Array.replicate_succ, Array.replicate_zero, List.push_toArray, List.append_toArray, List.nil_append, List.cons_append]
  have hmk : ∀ w, (Instr.makeSlice 223 (.int .i64 ((s.size : Int) + 1)) (.int .i64 ((s.size : Int) + 1))).run Tryz.prog w = .ok (.slice (some ⟨w.heap.size, 0, none⟩) (s.size + 1) (s.size + 1)) (w.alloc (.cells (Array.replicate (s.size + 1) (.bool false)) 4)) := fun w => by
    have := run_make_bools (s.size + 1) (by omega) w
    rw [show ((s.size + 1 : Nat) : Int) = (s.size : Int) + 1 by omega] at this
    exact this
  obtain ⟨W3, hW3⟩ : ∃ W3, ((W.alloc (.cells #[.func (.yield l) #[] #[]] 129)).alloc (.cells (Array.replicate (s.size + 1) (.bool false)) 4)).alloc (.cells #[.slice (some ⟨N + 1, 0, none⟩) (s.size + 1) (s.size + 1)] 223) = W3 := ⟨_, rfl⟩
  have lift : ∀ (W : World) (o : Obj) (k : Nat) (x : Obj), W.heap[k]? = some x → (W.alloc o).heap[k]? = some x := fun W o k x h => (Below.heap_alloc W o k (Array.getElem?_eq_some_iff.1 h).1).trans h
  have hz3 : W3.heap.size = N + 3 := by rw [← hW3]; simp [hN]
  have hg3 : W.grownBy W3 none := by rw [← hW3]; exact ((World.grownBy_alloc _ _ none).trans (World.grownBy_alloc _ _ none)).trans (World.grownBy_alloc _ _ none)
  have hb1 : W3.heap[N + 1]? = some (.cells (Array.replicate (s.size + 1) (.bool false)) 4 (0, 0)) := by rw [← hW3]; exact lift _ _ _ _ (heap_at _ _ _ (by simp [hN]))
  have hb2 : W3.heap[N + 1 + 1]? = some (.cells #[.slice (some ⟨N + 1, 0, none⟩) (s.size + 1) (s.size + 1)] 223 (0, 0)) := by rw [← hW3]; exact heap_at _ _ _ (by simp [hN])
  have hb0 : W3.heap[N]? = some (.cells #[.func (.yield l) #[] #[]] 129 (0, 0)) := by rw [← hW3]; exact lift _ _ _ _ (lift _ _ _ _ (heap_at _ _ _ hN.symm))
  have e3 := hg3.cell hw (by simp)
  have f3 : ∀ j, j ≤ s.size → W3.cell? ⟨N + 1, j, none⟩ = some (.bool false) ∧ W3.frozen? ⟨N + 1, j, none⟩ = false := fun j hj => ⟨by
    rw [cell_of_row W3 _ _ _ _ _ hb1]
    simp [Array.getElem?_replicate]; omega, by simp [World.frozen?, show W3.heap[N + 1]? = _ from hb1]⟩
  obtain ⟨f3a, f3b⟩ := f3 s.size (Nat.le_refl _)
  have c3 := cell_of_one hb2
  have hA : ∀ a, A = some a → a.block < N := fun a e => by
    obtain ⟨b, o, e2, hb, _⟩ := hrow hx0
    rw [e2] at e; cases e
    show b < N
    rw [← hN]; exact hb
  rw [hN] at hJ hSN hB1
  have hst : RdW N l bw Zc cap s A xs ok J s.size ((W3.setCell ⟨N + 1, s.size, none⟩ (.bool true)).alloc (.cells #[.int .i64 ((s.size : Int) - 1)] 3)) := by
    have h3 : RdW N l bw Zc cap s A xs ok J (s.size + 1) W3 := ⟨Nat.le_of_eq hz3.symm, e3, cell_of_one hb0, hg3.cell hc (by simp), hrow.kept3 hg3, c3, fun j hj => ⟨by rw [(f3 j hj).1, okTab, if_neg (by omega)], (f3 j hj).2⟩, hJ _ _ _ _ h0 hg3 (fun r e => by cases e)⟩
    have h4 := h3.store hJ (Nat.le_refl _) hbw hbc hA
    rw [hRd.ok_n] at h4
    exact h4.grown hJ (World.grownBy_alloc _ _ none) hbw hbc hA (fun r e => by cases e)
  have hic : ((W3.setCell ⟨N + 1, s.size, none⟩ (.bool true)).alloc (.cells #[.int .i64 ((s.size : Int) - 1)] 3)).heap[N + 3]? = some (.cells #[.int .i64 ((s.size : Int) - 1)] 3 (0, 0)) := heap_at _ _ _ (by simp [World.setCell, hz3])
  have HSt := hide hst
  clear hst f3 hb0 hb1 hb2 hg3 hrow lift h0 hw hc
  go_wp2
  generalize (W3.setCell ⟨N + 1, s.size, none⟩ (.bool true)).alloc (.cells #[.int .i64 ((s.size : Int) - 1)] 3) = W4 at HSt hic ⊢
  clear f3a f3b c3 e3 hW3 hz3 hmk e1 q1
  go_loopw [5] (fun pv wr => ∃ (i bi : Nat), pv = .pointer (some ⟨bi, 0, none⟩) ∧ wr.heap[bi]? = some (.cells #[.int .i64 ((i : Int) - 1)] 3 (0, 0)) ∧ N + 3 ≤ bi ∧ i ≤ s.size ∧ Hid (RdW N l bw Zc cap s A xs ok J i wr)) (fun pv wr => ptrI pv wr)
  case atStart => exact ⟨s.size, N + 3, rfl, hic, Nat.le_refl _, Nat.le_refl _, HSt⟩
  case round =>
    obtain ⟨i, bi, rfl, hbi, hbn, hi, HR⟩ := hrel
    clear hic HSt
    have hbc1 := cell_of_one hbi
    cases i with
    | zero =>
      have hng : ¬ (0 : Int) ≤ ((0 : Nat) : Int) - 1 := by omega
      obtain ⟨M, hM⟩ : ∃ M, wr.heap.size = M := ⟨_, rfl⟩
      have hzM := HR.out.size
      rw [hM] at hzM
      have hgz : wr.grownBy ((wr.alloc (.cells #[.slice none 0 0] 31)).alloc (.cells #[rdFn bw N M Zc (N + 1 + 1) (M + 1)] 147)) none := (World.grownBy_alloc _ _ none).trans (World.grownBy_alloc _ _ none)
      have hRz := HR.out.grown hJ hgz hbw hbc hA (fun r e => by cases e)
      have lift : ∀ (W : World) (o : Obj) (k : Nat) (x : Obj), W.heap[k]? = some x → (W.alloc o).heap[k]? = some x := fun W o k x h => (Below.heap_alloc W o k (Array.getElem?_eq_some_iff.1 h).1).trans h
      have hl1 : ((wr.alloc (.cells #[.slice none 0 0] 31)).alloc (.cells #[rdFn bw N M Zc (N + 1 + 1) (M + 1)] 147)).heap[M]? = some (.cells #[.slice none 0 0] 31 (0, 0)) := lift _ _ _ _ (heap_at _ _ _ hM.symm)
      have hl2 : ((wr.alloc (.cells #[.slice none 0 0] 31)).alloc (.cells #[rdFn bw N M Zc (N + 1 + 1) (M + 1)] 147)).heap[M + 1]? = some (.cells #[rdFn bw N M Zc (N + 1 + 1) (M + 1)] 147 (0, 0)) := heap_at _ _ _ (by simp [hM])
      have hzz : ((wr.alloc (.cells #[.slice none 0 0] 31)).alloc (.cells #[rdFn bw N M Zc (N + 1 + 1) (M + 1)] 147)).heap.size = M + 2 := by simp [hM]
      have hEnv : REnv l bw N M Zc (N + 1 + 1) (N + 1) (M + 1) s A xs cap ok ((wr.alloc (.cells #[.slice none 0 0] 31)).alloc (.cells #[rdFn bw N M Zc (N + 1 + 1) (M + 1)] 147)) :=
        ⟨hRz.w, hRz.y, hRz.c, hRz.row, hRz.o, fun j hj => by rw [(hRz.k j hj).1, okTab, if_pos (Nat.zero_le _)], cell_of_one hl2⟩
      have hLs : LSt ((wr.alloc (.cells #[.slice none 0 0] 31)).alloc (.cells #[rdFn bw N M Zc (N + 1 + 1) (M + 1)] 147)) M (M + 2) (.slice none 0 0) [] :=
        ⟨cell_of_one hl1, by simp [World.frozen?, hl1], Ints.nil_ _ _, by omega, Nat.le_of_eq hzz.symm⟩
      have HRead := hide (read_in l bw N M Zc (N + 1 + 1) (N + 1) (M + 1) (M + 2) N s A xs cap ok rd hRd hxn hss hs0 S
        (fun k hk => by
          rcases hk with rfl | rfl | rfl | rfl | rfl | rfl | ⟨a, ha, rfl⟩
          · exact hSb
          · exact hSN _ (Nat.le_refl _)
          · exact hSz
          · exact hSN _ (by omega)
          · exact hSN _ (by omega)
          · exact hSN _ (by omega)
          · exact hSA a ha)
        (hSN _ (by omega)) (fun g hg => hSN _ (by omega))
        (fun k hk => by
          rcases hk with rfl | rfl | rfl | rfl | rfl | rfl | ⟨a, ha, rfl⟩
          · omega
          · omega
          · omega
          · omega
          · omega
          · omega
          · have := hA a ha; omega)
        (by omega) J Jx hJ
        (fun pre x W' h1 h2 => yieldAny 0 (hY pre x W' h1 ⟨h2.1, h2.2.elim .inl (fun ⟨g, c, cur, a, hb, b⟩ => .inr ⟨g, c, cur, a, by omega, b⟩)⟩))
        (s.size + 1) 0 (Nat.zero_le _) (by omega) [] [] _ _ hEnv hLs (fun x hx => nomatch hx) hRz.j (Nat.le_refl _) (.inl rfl) 0)
      have ho2 := hRz.o
      have hk2 := (hRz.k 0 (Nat.zero_le _)).1
      rw [okTab, if_pos (Nat.le_refl _), hok0] at hk2
      have hr2 := hEnv.r
      have hi3 : (0 : Int) < (s.size : Int) + 1 := by omega
      unfold rdFn at HRead ho2 hk2 hr2
      rw [show ((0 : Nat) : Int) = (0 : Int) from rfl] at HRead
      clear hEnv hLs hRz hgz lift hl1 hl2 hzz HR
      go_wp2_with fail
      (with_reducible refine (callsIn_wide.1 HRead.out).mono ?_)
      rintro e W9 (⟨ys, v', rfl, hys, hj9, _⟩ | ⟨ys, rfl, hys, hj9⟩)
      · go_wp2
        go_end0
        exact ⟨⟨_, rfl⟩, .inl ⟨ys, by rw [hys]; simp, hj9⟩⟩
      · go_wp2
        go_end0
        exact ⟨⟨_, rfl⟩, .inr ⟨ys, by simpa using hys, hj9⟩⟩
    | succ i =>
      rw [show (((i + 1 : Nat) : Int) - 1) = (i : Int) by omega] at hbi hbc1
      have hi0 : (0 : Int) ≤ (i : Int) := by omega
      have hi1 : (i : Int) < (s.size : Int) + 1 := by omega
      have hoc := HR.out.o
      have hcc := HR.out.c
      obtain ⟨b, o, hAb, hbl, hcell⟩ := HR.out.row hx0
      have hany : (List.range xs.length).any (fun k => pfB s i (xs.getD k ⟨#[]⟩) && okTab ok (i + 1) (i + (xs.getD k ⟨#[]⟩).size)) = ok i := by
        rw [any_getD (fun x => pfB s i x && okTab ok (i + 1) (i + x.size)), hRd.ok_s i (by omega)]
        rw [Bool.eq_iff_iff, List.any_eq_true, List.any_eq_true]
        have hx : ∀ x ∈ xs, (pfB s i x && okTab ok (i + 1) (i + x.size)) = (pfB s i x && ok (i + x.size)) := fun x hx => by
          have := hRd.ne x hx
          rw [okTab, if_pos (by omega)]
        exact ⟨fun ⟨x, h1, h2⟩ => ⟨x, h1, by rw [← hx x h1]; exact h2⟩, fun ⟨x, h1, h2⟩ => ⟨x, h1, by rw [hx x h1]; exact h2⟩⟩
      have HCF := hide (cfS3_any 172 (.pointer (some ⟨bw, 0, none⟩)) (.pointer (some ⟨bi, 0, none⟩)) (.pointer (some ⟨N + 1 + 1, 0, none⟩)) (fun k => .string (xs.getD k ⟨#[]⟩)) (fun k => pfB s i (xs.getD k ⟨#[]⟩) && okTab ok (i + 1) (i + (xs.getD k ⟨#[]⟩).size)) xs.length cap b o wr.drew (by omega) hbl
        (fun k hk => by rw [show xs.getD k ⟨#[]⟩ = xs[k] by simp [hk]]; exact hcell k hk) (enters_of Tryz.func172 (by kernel_rfl) rfl)
        (hide fun k W' hk hB => by
          have kc : ∀ {p : Addr} {v : Value}, wr.cell? p = some v → W'.cell? p = some v := fun {p} {v} h => (hB.cell (p := p) (World.block_lt_of_cell? wr _ h)).trans h
          refine (rdPred_any (xs.getD k ⟨#[]⟩) s i bw bi (N + 1 + 1) (N + 1) (okTab ok (i + 1)) W' (by omega) hss (kc HR.out.w) (kc hbc1) (kc HR.out.o) (fun j hj => kc (HR.out.k j hj).1)).mono ?_
          rintro e W2 ⟨h1, rfl⟩
          exact ⟨h1, Below.refl _ _⟩))
      rw [hany] at HCF
      have HAft := hide (fun (w1 : World) (hB1 : Below wr.drew.heap.size wr.drew w1) => show (w1.cell? ⟨N + 1 + 1, 0, none⟩ = some (.slice (some ⟨N + 1, 0, none⟩) (s.size + 1) (s.size + 1)) ∧ w1.cell? ⟨bi, 0, none⟩ = some (.int .i64 (i : Int)) ∧ w1.cell? ⟨Zc, 1, none⟩ = some (.slice (some ⟨b, o, none⟩) xs.length cap)) ∧ (∃ u, w1.cell? ⟨N + 1, i, none⟩ = some (.bool u)) ∧ w1.frozen? ⟨N + 1, i, none⟩ = false ∧ RdW N l bw Zc cap s A xs ok J i (w1.setCell ⟨N + 1, i, none⟩ (.bool (ok i))) ∧ (w1.setCell ⟨N + 1, i, none⟩ (.bool (ok i))).cell? ⟨bi, 0, none⟩ = some (.int .i64 (i : Int)) from by
        have hgw : wr.grownBy w1 none := ⟨hB1.os, hB1.tape, hB1.output, hB1.size, fun k hk _ => hB1.block k hk⟩
        have hR1 := HR.out.grown hJ hgw hbw hbc hA (fun r e => by cases e)
        have hbi1 := hgw.cell hbc1 (by simp)
        refine ⟨⟨hR1.o, hbi1, hAb ▸ hR1.c⟩, ⟨_, (hR1.k i (by omega)).1⟩, (hR1.k i (by omega)).2, hR1.store hJ (by omega) hbw hbc hA, ?_⟩
        exact (grown_setO w1 (N + 1) i _).cell hbi1 (by simp; omega))
      subst hAb
      clear hany hcell hbl
      go_wp2
      go_region_held3 (fun W => W.cell? ⟨N + 1 + 1, 0, none⟩ = some (.slice (some ⟨N + 1, 0, none⟩) (s.size + 1) (s.size + 1)) ∧ W.cell? ⟨bi, 0, none⟩ = some (.int .i64 (i : Int)) ∧ W.cell? ⟨Zc, 1, none⟩ = some (.slice (some ⟨b, o, none⟩) xs.length cap))
        (first | with_reducible exact ⟨cell_drew hoc, cell_drew hbc1, cell_drew hcc⟩ | with_reducible exact hS1 | exact ⟨(World.cell?_setCell_far _ _ _ _ (by simp)).trans hS1.1, (World.cell?_setCell_far _ _ _ _ (by simp; omega)).trans hS1.2.1, (World.cell?_setCell_far _ _ _ _ (by simp; omega)).trans hS1.2.2⟩)
        ((go_at_call 171; with_reducible refine HCF.out.mono ?_; rintro e w1 ⟨rfl, hB1⟩; obtain ⟨hS1, ⟨u, hu⟩, hf1, hR1, hbi1⟩ := HAft.out w1 hB1))
      have HR1 := hide hR1
      have hf2 := hbi1
      clear hu hf1 hS1 hB1 hR1 HAft HCF hoc hcc HR
      have hsz1 : (w1.setCell ⟨N + 1, i, none⟩ (.bool (ok i))).heap.size = w1.heap.size := by simp [World.setCell]
      have hNew := heap_at (w1.setCell ⟨N + 1, i, none⟩ (.bool (ok i))) (.cells #[.int .i64 ((i : Int) - 1)] 3) w1.heap.size hsz1.symm
      have hN3 : N + 3 ≤ w1.heap.size := by have := HR1.out.size; omega
      have HR2 := hide (HR1.out.grown hJ (World.grownBy_alloc (w1.setCell ⟨N + 1, i, none⟩ (.bool (ok i))) (.cells #[.int .i64 ((i : Int) - 1)] 3) none) hbw hbc hA (fun r e => by cases e))
      have HNew := hide hNew
      have HSz := hide hsz1
      clear hNew hsz1 HR1
      go_wp2
      go_roundw
      case rel => exact ⟨i, w1.heap.size, rfl, HNew.out, hN3, by omega, HR2⟩
      case measure =>
        simp only [ptrI]
        rw [cell_of_one HNew.out, hbc1]
        simp [intOf]
end Go.Proofs.YtldgjljecbohoaaGreatDoor

/- decodable.Ambiguous at the code {0, 01, 10} of the example: 010, read as 0 10 and as 01 0. -/
set_option linter.unusedVariables false
namespace Go.Proofs.YtldgjljecbohoaaGreatDoor
open Go.RowKit Go.Shelf
attribute [local go_sem] Oper.semAt_some
def rdA : Nat → List (List Int)
  | 0 => [[0, 2], [1, 0]]
  | 1 => [[2]]
  | 2 => [[0]]
  | _ => [[]]
def okA (i : Nat) : Bool := decide (i ≤ 3)
theorem rdS_A : RdG xsA wA okA rdA := by
  refine ⟨rfl, ?_, rfl, ?_, by decide⟩
  · intro i hi
    have hi : i < 3 := hi
    have hk : i = 0 ∨ i = 1 ∨ i = 2 := by omega
    rcases hk with rfl | rfl | rfl <;> rfl
  · intro i hi
    have hi : i < 3 := hi
    have hk : i = 0 ∨ i = 1 ∨ i = 2 := by omega
    rcases hk with rfl | rfl | rfl <;> rfl
theorem decV_A : decV xsA = false := by decide
theorem cdk_A : cdk 2 xsA = 0 := by decide
theorem ambSize : (Tryz.prog.info? 81).map (·.size) = some 3 := by kernel_rfl
theorem results_cell_tmp2 {fn : Func} {p u v : Tmp} {ty : TypeId} (h : fn.results = #[.cell p ty, .tmp u, .tmp v]) (tmps : Array Value) (P : Program) (w : World) :
    (results fn tmps).run P w = ((asAddr (tmps.getD p undef)).run P w).andThen fun a w₁ => ((loadVar ty a).run P w₁).andThen fun x w₂ => .ok (.tuple #[x, tmps.getD u undef, tmps.getD v undef]) w₂ := by
  simp only [results, h]
  simp [Sem.run_bind, Result.andThen]
theorem ret_amb {fn : Func} {p u v : Tmp} (h : fn.results = #[.cell p 81, .tmp u, .tmp v]) (tmps : Array Value) (w : World) (g : Nat) (cs : Array Value) (hp : tmps.getD p undef = .pointer (some ⟨g, 0, none⟩)) (hg : w.heap[g]? = some (.cells cs 81 (0, 0))) (hcs : cs.size = 3) :
    (results fn tmps).run Tryz.prog w = .ok (.tuple #[.agg cs, tmps.getD u undef, tmps.getD v undef]) w := by
  rw [results_cell_tmp2 h, hp]
  simp [asAddr, Result.andThen, run_loadVar_row w g 81 81 cs (0, 0) _ hg Tryz.underlying81 rfl (by rw [hcs]; exact ambSize)]
theorem row_setO {w : World} {R : Nat} {cs : Array Value} {t : TypeId} {fr : Nat × Nat} (h : w.heap[R]? = some (.cells cs t fr)) (j : Nat) (v : Value) : (w.setCell ⟨R, j, none⟩ v).heap[R]? = some (.cells (cs.setIfInBounds j v) t fr) := by
  simp [World.setCell, Array.getElem?_modify, h]
def slR (x : RdX) : Value := .slice (some ⟨x.2.1, 0, none⟩) x.1.length x.2.2
def firstV (pre : List RdX) : Value := match pre with | [] => .slice none 0 0 | x :: _ => slR x
/-- what holds between two readings -/
structure AmI (Z Na : Nat) (Wl : World) (pre : List RdX) (W : World) : Prop where
  n : W.heap[Na + 1]? = some (.cells #[.int .i64 (pre.length : Int)] 3 (0, 0))
  a : W.heap[Na]? = some (.cells #[.string wA, firstV pre, .slice none 0 0] 81 (0, 0))
  r : ∀ x ∈ pre, PreR (Na + 4) x W
  l : pre.length ≤ 1
  k : KS (fun k => k < Na) Wl W
/-- what holds behind the second reading -/
structure AmX (Z Na : Nat) (Wl : World) (x y : RdX) (W : World) : Prop where
  a : W.heap[Na]? = some (.cells #[.string wA, slR x, slR y] 81 (0, 0))
  x : PreR (Na + 4) x W
  y : PreR (Na + 4) y W
  k : KS (fun k => k < Na) Wl W
def AmJ (Z Na : Nat) (Wl : World) (c : Code) (pre : List RdX) (W : World) : Prop := c = .exit 0 ∧ ∃ x y, pre = [x, y] ∧ AmX Z Na Wl x y W
theorem PreR.grown {B : Nat} {x : RdX} {W W' : World} {row : Option Nat} (h : PreR B x W) (hg : W.grownBy W' row) (hr : some x.2.1 ≠ row) : PreR B x W' := World.ownsRow.kept h hg (.inr hr)
theorem PreR.own {x : RdX} {pre : List RdX} {W W' : World} {row : Option Nat} {B Bx : Nat} (h : PreR Bx x W) (hx : x ∈ pre) (hg : W.grownBy W' row) (hr : ∀ r, row = some r → B ≤ r ∧ ∃ o : Obj, W.heap[r]? = some o ∧ (o.isCells = false ∨ ∀ x ∈ pre, blkR x ≠ r)) : PreR Bx x W' := by
  refine h.grown hg fun e => ?_
  obtain ⟨_, o, ho, hc⟩ := hr _ e.symm
  rcases hc with hc | hc
  · obtain ⟨_, cs, hcs⟩ := Ints.own_ge h rfl
    rw [hcs] at ho; cases ho; cases hc
  · exact hc x hx rfl
theorem amI_own (Z Na : Nat) (Wl : World) (hz : Wl.heap.size = Na + 4) : OwnB Wl.heap.size blkR (AmI Z Na Wl) := by
  intro pre W W' row h hg hr
  have hne : ∀ k, k < Na + 4 → some k ≠ row := fun k hk e => by have := (hr k e.symm).1; omega
  exact ⟨(hg.block _ (Array.getElem?_eq_some_iff.1 h.n).1 (hne _ (by omega))).trans h.n, (hg.block _ (Array.getElem?_eq_some_iff.1 h.a).1 (hne _ (by omega))).trans h.a, fun x hx => (h.r x hx).own hx hg hr, h.l, h.k.grown hg fun k e hk => by have := (hr k e).1; omega⟩
theorem amX_own (Z Na : Nat) (Wl : World) (hz : Wl.heap.size = Na + 4) (c : Code) : OwnB Wl.heap.size blkR (AmJ Z Na Wl c) := by
  intro pre W W' row ⟨hc, x, y, he, h⟩ hg hr
  have hne : ∀ k, k < Na + 4 → some k ≠ row := fun k hk e => by have := (hr k e.symm).1; omega
  exact ⟨hc, x, y, he, (hg.block _ (Array.getElem?_eq_some_iff.1 h.a).1 (hne _ (by omega))).trans h.a, h.x.own (by rw [he]; simp) hg hr, h.y.own (by rw [he]; simp) hg hr, h.k.grown hg fun k e hk => by have := (hr k e).1; omega⟩
/-- Ambiguous's answer: the message and the two rows -/
def AmPost (g1 c1 g2 c2 : Nat) (w w' : World) : Prop := PreR w.heap.size ([0, 2], g1, c1) w' ∧ PreR w.heap.size ([1, 0], g2, c2) w' ∧ Below w.heap.size w w'
set_option maxRecDepth 100000 in
set_option maxHeartbeats 4000000 in
theorem ambiguous_A (A : Option Addr) (cap : Nat) (w : World) (hR : RowT w A xsA) (hc : 3 ≤ cap) (hcm : cap ≤ 9223372036854775807) :
    Calls Tryz.prog 49 #[.agg #[.int .i64 2, .slice A 3 cap]] w fun e w' => ∃ g1 c1 g2 c2, e = .returned (.tuple #[.agg #[.string wA, .slice (some ⟨g1, 0, none⟩) 2 c1, .slice (some ⟨g2, 0, none⟩) 2 c2], .bool true, .int .i64 0]) ∧ AmPost g1 c1 g2 c2 w w' := by
  refine (callsIn_wide (n := 3)).1 ?_
  obtain ⟨Z, hZ⟩ : ∃ Z, w.heap.size = Z := ⟨_, rfl⟩
  obtain ⟨W0, hW0⟩ : ∃ W0, (w.alloc (.cells #[.int .i64 2, .slice A 3 cap] 27)).alloc (.cells #[.string ⟨#[]⟩, .slice none 0 0, .slice none 0 0] 81) = W0 := ⟨_, rfl⟩
  have hB0 : Below Z w W0 := by rw [← hW0]; exact (((Below.refl _ w).alloc (by omega) _).alloc (by simp; omega) _)
  have hz0 : W0.heap.size = Z + 2 := by rw [← hW0]; simp [hZ]
  have hc0 : W0.heap[Z]? = some (.cells #[.int .i64 2, .slice A 3 cap] 27 (0, 0)) := by
    rw [← hW0]; exact (Below.heap_alloc _ _ _ (by simp; omega)).trans (heap_at _ _ _ hZ.symm)
  have hr0 : W0.heap[Z + 1]? = some (.cells #[.string ⟨#[]⟩, .slice none 0 0, .slice none 0 0] 81 (0, 0)) := by rw [← hW0]; exact heap_at _ _ _ (by simp [hZ])
  have hRW : ∀ W, Below Z w W → RowT W A xsA := fun W hW => hR.below (by rw [hZ]; exact hW)
  have HC := hide (callsIn_wide (n := 2).2 (ccheck_any 2 xsA A cap W0 (hRW _ hB0) hc hcm))
  rw [cdk_A, show xsA.length = 3 from rfl] at HC
  have HD := hide (fun W hW => callsIn_wide (n := 2).2 (decodable_any 2 A cap xsA W hW (by decide) (by decide)))
  rw [decV_A, show xsA.length = 3 from rfl] at HD
  have HM := hide (fun W hW => callsIn_wide (n := 2).2 (message_A A cap W hW))
  have HRd := hide (fun W => callsIn_wide (n := 2).2 (readings_in 2 A 3 cap wA W))
  have hRz : Tryz.prog.info? 81 = Tryz.prog.info? 81 := rfl
  refine callsIn_of_wp_marks Tryz.func49 rfl trivial ?_ rfl
  simp only [Tryz.ntmps49, List.size_toArray, List.length_cons, List.length_nil, Nat.reduceAdd, Nat.reduceSub, Array.replicate_succ, Array.replicate_zero, List.push_toArray, List.append_toArray, List.nil_append, List.cons_append]
  have hcAt := hide (show ∀ W, Below (Z + 2) W0 W → (W.cell? ⟨Z, 0, none⟩ = some (.int .i64 2) ∧ W.cell? ⟨Z, 1, none⟩ = some (.slice A 3 cap)) ∧ RowT W A xsA ∧ W.heap[Z + 1]? = some (.cells #[.string ⟨#[]⟩, .slice none 0 0, .slice none 0 0] 81 (0, 0)) ∧ Below Z w W from fun W hW => by
    have h1 := (hW.block Z (by omega)).trans hc0
    exact ⟨⟨by rw [cell_of_row W _ _ _ _ _ h1]; rfl, by rw [cell_of_row W _ _ _ _ _ h1]; rfl⟩, hRW W (hB0.trans (hW.mono (by omega))), (hW.block _ (by omega)).trans hr0, hB0.trans (hW.mono (by omega))⟩)
  obtain ⟨⟨k00, k01⟩, _⟩ := hcAt.out W0 (Below.refl _ _)
  clear hc0 hr0 hB0 hRz hRW
  gi_wp2_with fail
  refine ⟨trivial, ?_⟩
  (with_reducible refine HC.out.mono ?_)
  rintro e W1 ⟨rfl, hB1⟩
  obtain ⟨⟨k10, k11⟩, hR1, _⟩ := hcAt.out W1 (hB1.mono (by omega))
  have hB1' := hide (hB1.mono (show Z + 2 ≤ W0.heap.size by omega))
  have hz1 := hB1.size
  have HD1 := hide (HD.out W1 hR1)
  clear HC HD hB1 hR1 k00 k01 hW0
  gi_wp2_with fail
  refine ⟨trivial, ?_⟩
  (with_reducible refine HD1.out.mono ?_)
  rintro e W2 ⟨rfl, hB2⟩
  have hB2' := hide (hB1'.out.trans (hB2.mono (show Z + 2 ≤ W1.heap.size by omega)))
  obtain ⟨⟨k20, k21⟩, hR2, _⟩ := hcAt.out W2 hB2'.out
  have hz2 := hB2.size
  have HM2 := hide (HM.out W2 hR2)
  clear HD1 HM hB2 hR2 k10 k11 hB1'
  gi_wp2_with fail
  refine ⟨trivial, ?_⟩
  (with_reducible refine HM2.out.mono ?_)
  rintro e W3 ⟨rfl, hB3⟩
  have hB3' := hide (hB2'.out.trans (hB3.mono (show Z + 2 ≤ W2.heap.size by omega)))
  obtain ⟨⟨k30, k31⟩, hR3, hres3, hBw3⟩ := hcAt.out W3 hB3'.out
  have hz3 := hB3.size
  obtain ⟨Na, hNa⟩ : ∃ Na, W3.heap.size = Na := ⟨_, rfl⟩
  obtain ⟨Wl, hWl⟩ : ∃ Wl, (((W3.alloc (.cells #[.string wA, .slice none 0 0, .slice none 0 0] 81)).alloc (.cells #[.int .i64 0] 3)).alloc (.cells #[.int .i64 2, .slice A 3 cap] 27)).alloc (.cells #[.string wA] 9) = Wl := ⟨_, rfl⟩
  have kz0 : ((W3.alloc (.cells #[.string wA, .slice none 0 0, .slice none 0 0] 81)).alloc (.cells #[.int .i64 0] 3)).cell? ⟨Z, 0, none⟩ = some (.int .i64 2) := (World.cell?_alloc_lt _ _ _ (by show Z < _; simp; omega)).trans ((World.cell?_alloc_lt _ _ _ (by show Z < _; omega)).trans k30)
  have kz1 : ((W3.alloc (.cells #[.string wA, .slice none 0 0, .slice none 0 0] 81)).alloc (.cells #[.int .i64 0] 3)).cell? ⟨Z, 1, none⟩ = some (.slice A 3 cap) := (World.cell?_alloc_lt _ _ _ (by show Z < _; simp; omega)).trans ((World.cell?_alloc_lt _ _ _ (by show Z < _; omega)).trans k31)
  have HR3 := hide hR3
  clear HM2 hB3 hR3 k20 k21 k30 k31 hB2'
  gi_wp2_with fail
  refine ⟨trivial, ?_⟩
  (with_reducible refine (HRd.out _).mono ?_)
  rintro e w7 ⟨rfl, rfl⟩
  rw [show ((W3.alloc (.cells #[.string wA, .slice none 0 0, .slice none 0 0] 81)).alloc (.cells #[.int .i64 0] 3)).heap.size = Na + 2 by simp [hNa], hWl]
  have lift : ∀ (W : World) (o : Obj) (k : Nat) (x : Obj), W.heap[k]? = some x → (W.alloc o).heap[k]? = some x := fun W o k x h => (Below.heap_alloc W o k (Array.getElem?_eq_some_iff.1 h).1).trans h
  have hzl : Wl.heap.size = Na + 4 := by rw [← hWl]; simp [hNa]
  have hla : Wl.heap[Na]? = some (.cells #[.string wA, .slice none 0 0, .slice none 0 0] 81 (0, 0)) := by rw [← hWl]; exact lift _ _ _ _ (lift _ _ _ _ (lift _ _ _ _ (heap_at _ _ _ hNa.symm)))
  have hln : Wl.heap[Na + 1]? = some (.cells #[.int .i64 0] 3 (0, 0)) := by rw [← hWl]; exact lift _ _ _ _ (lift _ _ _ _ (heap_at _ _ _ (by simp [hNa])))
  have hlc : Wl.heap[Na + 2]? = some (.cells #[.int .i64 2, .slice A 3 cap] 27 (0, 0)) := by rw [← hWl]; exact lift _ _ _ _ (heap_at _ _ _ (by simp [hNa]))
  have hlw : Wl.heap[Na + 3]? = some (.cells #[.string wA] 9 (0, 0)) := by rw [← hWl]; exact heap_at _ _ _ (by simp [hNa])
  have hgl : W3.grownBy Wl none := by rw [← hWl]; exact (((World.grownBy_alloc _ _ none).trans (World.grownBy_alloc _ _ none)).trans (World.grownBy_alloc _ _ none)).trans (World.grownBy_alloc _ _ none)
  have hRl : RowT Wl A xsA := HR3.out.kept3 hgl
  have hAl : ∀ a, A = some a → a.block < Na := fun a e => by
    obtain ⟨b, o, e2, hb, _⟩ := HR3.out (by decide)
    rw [e2] at e; cases e
    show b < Na
    rw [← hNa]; exact hb
  have hBl : Below Na W3 Wl := ⟨hgl.os, hgl.tape, hgl.output, hgl.size, fun k hk => hgl.block k (by omega) (by simp)⟩
  have hrl := (hgl.block (Z + 1) (by omega) (by simp)).trans hres3
  have hzNa : Z + 2 ≤ Na := by omega
  clear lift HRd hWl hNa kz0 kz1 hres3 HR3 hgl
  gi_wp2
  refine wpIn_rangeFunc_pre (α := RdX) rfl (by omega) (gf := 170) (lb := #[.pointer (some ⟨Na + 3, 0, none⟩), .pointer (some ⟨Na + 2, 0, none⟩)]) rfl trivial (enters_of Tryz.func170 (by kernel_rfl) rfl)
    (encs := encR) (fun _ => rfl) (Kp := KC (fun k => Na + 2 ≤ k ∨ ∃ a, A = some a ∧ k = a.block)) (Pre := PreR (Na + 4)) (blk := blkR) (S := fun ys => ys.map Prod.fst = rdA 0) (Sp := fun pre => pre.map Prod.fst <+: rdA 0)
    (fun l J Jx W hW hJ hJx hY h0 => readingsf_in 2 l (Na + 3) (Na + 2) cap wA A xsA okA rdA rdS_A (by decide) (by decide) (by decide) (by decide) rfl _ J Jx W (Na + 4) (by have := hW.size; omega) hJ
      (fun k hk => .inl (by have := hW.size; omega)) (.inl (by omega)) (.inl (Nat.le_refl _)) (fun a ha => .inr ⟨a, ha, rfl⟩) (by omega) hY
      (by rw [hW.cell (p := ⟨Na + 3, 0, none⟩) (by show Na + 3 < _; omega)]; exact cell_of_one hlw)
      (by rw [hW.cell (p := ⟨Na + 2, 1, none⟩) (by show Na + 2 < _; omega), cell_of_row Wl _ _ _ _ _ hlc]; rfl)
      (hRl.below hW) h0)
    (fun h k => h.trans k) kc_b (AmI Z Na Wl) (AmJ Z Na Wl) (amI_own Z Na Wl hzl) (fun c => amX_own Z Na Wl hzl c)
    ⟨hln, hla, (fun x hx => nomatch hx), Nat.zero_le _, KS.refl _ _⟩
    (fun pre x a' W => AmI Z Na Wl pre W ∧ PreR (Na + 4) x W ∧ a' = { tmps := #[.agg #[.int .i64 2, .slice A 3 cap], .pointer (some ⟨Z, 0, none⟩), .pointer (some ⟨Z + 1, 0, none⟩), .bool false, .int .i64 0, .string wA, .bool true, .pointer (some ⟨Na, 0, none⟩), .pointer (some ⟨Na + 1, 0, none⟩), slR x, .agg #[.int .i64 2, .slice A 3 cap], .int .i64 0, .bool false, undef, .agg #[.int .i64 2, .slice A 3 cap], .bool false, undef, .tuple #[.string wA, .bool true], .agg #[.int .i64 2, .slice A 3 cap], .tuple #[.string wA, .bool true], .string wA, .bool true, .bool true, .bool false, undef, .string wA, .agg #[.string wA, .slice none 0 0, .slice none 0 0], .agg #[.int .i64 2, .slice A 3 cap], .string wA, .func (.func 170) #[] #[.pointer (some ⟨Na + 3, 0, none⟩), .pointer (some ⟨Na + 2, 0, none⟩)], slR x, undef, undef, undef, undef, undef, undef, undef, undef, undef], defers := [] })
    (fun pre x a' s X Y row hs hg hr => ⟨amI_own Z Na Wl hzl pre X Y row hs.1 hg (fun r e => ⟨(hr r e).1, by obtain ⟨o, h1, h2⟩ := (hr r e).2; exact ⟨o, h1, .inl h2⟩⟩), hs.2.1.own (pre := [x]) (by simp) hg (fun r e => ⟨(hr r e).1, by obtain ⟨o, h1, h2⟩ := (hr r e).2; exact ⟨o, h1, .inl h2⟩⟩), hs.2.2⟩)
    ?assign ?body ?done ?stop
  case assign =>
    rintro l pre x W K hI hpre hK
    simp only [encR] at hK ⊢
    gi_wp2
    exact hK _ _ (KeepsFrom.refl _ _) (KC.refl _ _) ⟨hI, hpre, rfl⟩
  case body =>
    rintro l pre ⟨zs, g, cp⟩ a' W ⟨hI, hx, rfl⟩
    have hnf : W.frozen? ⟨Na + 1, 0, none⟩ = false := by simp [World.frozen?, show W.heap[Na + 1]? = _ from hI.n]
    have hac : ∀ j, W.frozen? ⟨Na, j, none⟩ = false := fun j => by simp [World.frozen?, show W.heap[Na]? = _ from hI.a]
    have hxl : Na + 4 ≤ g := (Ints.own_ge hx rfl).1
    dsimp only [slR]
    rcases pre with _ | ⟨y, _ | ⟨y2, ys⟩⟩
    · have hnc : W.cell? ⟨Na + 1, 0, none⟩ = some (.int .i64 0) := cell_of_one hI.n
      have ha2 : (W.setCell ⟨Na + 1, 0, none⟩ (.int .i64 1)).cell? ⟨Na, 1, none⟩ = some (.slice none 0 0) := by
        rw [World.cell?_setCell_far _ _ _ _ (by simp), cell_of_row W _ _ _ _ _ hI.a]; rfl
      have hn2 : (W.setCell ⟨Na + 1, 0, none⟩ (.int .i64 1)).cell? ⟨Na + 1, 0, none⟩ = some (.int .i64 1) := World.cell?_setCell_same _ _ _ hnc
      have hf2 : (W.setCell ⟨Na + 1, 0, none⟩ (.int .i64 1)).frozen? ⟨Na, 1, none⟩ = false := by rw [World.frozen?_setCell]; exact hac 1
      have hg1 := grown_setO W (Na + 1) 0 (.int .i64 1)
      have hg2 := grown_setO (W.setCell ⟨Na + 1, 0, none⟩ (.int .i64 1)) Na 1 (.slice (some ⟨g, 0, none⟩) zs.length cp)
      have HPost := hide (show KeepsFrom Wl.heap.size W ((W.setCell ⟨Na + 1, 0, none⟩ (.int .i64 1)).setCell ⟨Na, 1, none⟩ (.slice (some ⟨g, 0, none⟩) zs.length cp)) ∧ KC (fun k => Na + 2 ≤ k ∨ ∃ a, A = some a ∧ k = a.block) W ((W.setCell ⟨Na + 1, 0, none⟩ (.int .i64 1)).setCell ⟨Na, 1, none⟩ (.slice (some ⟨g, 0, none⟩) zs.length cp)) ∧ AmI Z Na Wl ([] ++ [(zs, g, cp)]) ((W.setCell ⟨Na + 1, 0, none⟩ (.int .i64 1)).setCell ⟨Na, 1, none⟩ (.slice (some ⟨g, 0, none⟩) zs.length cp)) from by
        refine ⟨(KeepsFrom.of_grownBy hg1 (fun j e => by cases e; omega)).trans (KeepsFrom.of_grownBy hg2 (fun j e => by cases e; omega)), ⟨rfl, rfl, rfl, Nat.le_trans hg1.size hg2.size, fun k o hk _ hS => ?_⟩, ?_⟩
        · have hk1 : k ≠ Na ∧ k ≠ Na + 1 := by
            rcases hS with hS | ⟨a, ha, rfl⟩
            · omega
            · have := hAl a ha; omega
          have hkl := (Array.getElem?_eq_some_iff.1 hk).1
          exact ((hg2.block k (Nat.lt_of_lt_of_le hkl hg1.size) (by simp; omega)).trans (hg1.block k hkl (by simp; omega))).trans hk
        · refine ⟨?_, ?_, fun z hz => ?_, by simp, (hI.k.grown hg1 (fun k e h => by cases e; omega)).grown hg2 (fun k e h => by cases e; omega)⟩
          · refine (hg2.block _ (by have := hg1.size; have := (Array.getElem?_eq_some_iff.1 hI.n).1; omega) (by simp)).trans ?_
            exact row_setO hI.n 0 (.int .i64 1)
          · have h0 := (hg1.block Na (Array.getElem?_eq_some_iff.1 hI.a).1 (by simp)).trans hI.a
            exact row_setO h0 1 (.slice (some ⟨g, 0, none⟩) zs.length cp)
          · obtain rfl : z = (zs, g, cp) := by simpa using hz
            exact (hx.grown hg1 (by simp; omega)).grown hg2 (by simp; omega))
      have hnz : IntKind.i64.wrap ((0 : Int) + 1) = 1 := rfl
      clear hg1 hg2 hI hx
      gi_wp2
      exact HPost.out
    · have hnc : W.cell? ⟨Na + 1, 0, none⟩ = some (.int .i64 1) := cell_of_one hI.n
      have ha2 : (W.setCell ⟨Na + 1, 0, none⟩ (.int .i64 2)).cell? ⟨Na, 2, none⟩ = some (.slice none 0 0) := by
        rw [World.cell?_setCell_far _ _ _ _ (by simp), cell_of_row W _ _ _ _ _ hI.a]; rfl
      have hn2 : (W.setCell ⟨Na + 1, 0, none⟩ (.int .i64 2)).cell? ⟨Na + 1, 0, none⟩ = some (.int .i64 2) := World.cell?_setCell_same _ _ _ hnc
      have hf2 : (W.setCell ⟨Na + 1, 0, none⟩ (.int .i64 2)).frozen? ⟨Na, 2, none⟩ = false := by rw [World.frozen?_setCell]; exact hac 2
      have hg1 := grown_setO W (Na + 1) 0 (.int .i64 2)
      have hg2 := grown_setO (W.setCell ⟨Na + 1, 0, none⟩ (.int .i64 2)) Na 2 (.slice (some ⟨g, 0, none⟩) zs.length cp)
      have HPost := hide (show KeepsFrom Wl.heap.size W ((W.setCell ⟨Na + 1, 0, none⟩ (.int .i64 2)).setCell ⟨Na, 2, none⟩ (.slice (some ⟨g, 0, none⟩) zs.length cp)) ∧ AmJ Z Na Wl (.exit 0) ([y] ++ [(zs, g, cp)]) ((W.setCell ⟨Na + 1, 0, none⟩ (.int .i64 2)).setCell ⟨Na, 2, none⟩ (.slice (some ⟨g, 0, none⟩) zs.length cp)) from by
        have hy := hI.r y (by simp)
        have hyl : Na + 4 ≤ y.2.1 := (Ints.own_ge hy rfl).1
        refine ⟨(KeepsFrom.of_grownBy hg1 (fun j e => by cases e; omega)).trans (KeepsFrom.of_grownBy hg2 (fun j e => by cases e; omega)), rfl, y, (zs, g, cp), rfl, ?_, ?_, ?_, (hI.k.grown hg1 (fun k e h => by cases e; omega)).grown hg2 (fun k e h => by cases e; omega)⟩
        · have h0 := (hg1.block Na (Array.getElem?_eq_some_iff.1 hI.a).1 (by simp)).trans hI.a
          exact row_setO h0 2 (.slice (some ⟨g, 0, none⟩) zs.length cp)
        · exact (hy.grown hg1 (by simp; omega)).grown hg2 (by simp; omega)
        · exact (hx.grown hg1 (by simp; omega)).grown hg2 (by simp; omega))
      have hnz : IntKind.i64.wrap ((1 : Int) + 1) = 2 := rfl
      clear hg1 hg2 hI hx
      gi_wp2
      exact HPost.out
    · exact absurd hI.l (by simp)
  case done =>
    rintro D ys W hD hys hI hK
    have := hI.l
    rw [← List.length_map (f := Prod.fst), hys] at this
    exact absurd this (by decide)
  case stop =>
    rintro D c pre W hD hSp ⟨rfl, x, y, rfl, hX⟩ hK
    have hl2 := hSp.length_le
    obtain ⟨hx1, hy1⟩ : x.1 = [0, 2] ∧ y.1 = [1, 0] := by
      have := List.IsPrefix.eq_of_length hSp (by simp [rdA])
      simpa [rdA] using this
    obtain ⟨xz, xg, xc⟩ := x
    obtain ⟨yz, yg, yc⟩ := y
    simp only at hx1 hy1
    subst hx1 hy1
    have hxg : Na + 4 ≤ xg := (Ints.own_ge hX.x rfl).1
    have hyg : Na + 4 ≤ yg := (Ints.own_ge hX.y rfl).1
    have hrow := hX.a
    simp only [slR, List.length_cons, List.length_nil, Nat.zero_add, Nat.reduceAdd] at hrow
    have hres := (hX.k.block (Z + 1) (by omega) (by show Z + 1 < Na; omega)).trans hrl
    have hMk : Marks Na [mark D] W := Marks.one (by omega) hK
    have a0 : W.cell? ⟨Na, 0, none⟩ = some (.string wA) := by rw [cell_of_row W _ _ _ _ _ hrow]; rfl
    have a1 : W.cell? ⟨Na, 1, none⟩ = some (.slice (some ⟨xg, 0, none⟩) 2 xc) := by rw [cell_of_row W _ _ _ _ _ hrow]; rfl
    have a2 : W.cell? ⟨Na, 2, none⟩ = some (.slice (some ⟨yg, 0, none⟩) 2 yc) := by rw [cell_of_row W _ _ _ _ _ hrow]; rfl
    have r0 : W.cell? ⟨Z + 1, 0, none⟩ = some (.string ⟨#[]⟩) := by rw [cell_of_row W _ _ _ _ _ hres]; rfl
    have r1 : W.cell? ⟨Z + 1, 1, none⟩ = some (.slice none 0 0) := by rw [cell_of_row W _ _ _ _ _ hres]; rfl
    have r2 : W.cell? ⟨Z + 1, 2, none⟩ = some (.slice none 0 0) := by rw [cell_of_row W _ _ _ _ _ hres]; rfl
    have z0 : ∀ j, W.frozen? ⟨Z + 1, j, none⟩ = false := fun j => by simp [World.frozen?, show W.heap[Z + 1]? = _ from hres]
    obtain ⟨We, hWe⟩ : ∃ We, ((W.setCell ⟨Z + 1, 0, none⟩ (.string wA)).setCell ⟨Z + 1, 1, none⟩ (.slice (some ⟨xg, 0, none⟩) 2 xc)).setCell ⟨Z + 1, 2, none⟩ (.slice (some ⟨yg, 0, none⟩) 2 yc) = We := ⟨_, rfl⟩
    have hge : W.grownBy We (some (Z + 1)) := by rw [← hWe]; exact ((grown_setO _ _ _ _).trans (grown_setO _ _ _ _)).trans (grown_setO _ _ _ _)
    have hre : We.heap[Z + 1]? = some (.cells #[.string wA, .slice (some ⟨xg, 0, none⟩) 2 xc, .slice (some ⟨yg, 0, none⟩) 2 yc] 81 (0, 0)) := by
      rw [← hWe]; exact row_setO (row_setO (row_setO hres 0 _) 1 _) 2 _
    have HX := hide (hX.x.grown hge (by simp; omega))
    have HY := hide (hX.y.grown hge (by simp; omega))
    have HMk := hide (hMk.kept fun D hD hd => (hge.block D (Array.getElem?_eq_some_iff.1 hd).1 (by simp; omega)).trans hd)
    have HBe : Below Z w We := by
      have h1 : Below Na W3 W := hBl.trans (hX.k.below (fun k hk => hk) (by omega))
      exact hBw3.trans ((h1.mono (by omega)).trans ((Below.refl Z W).grown hge (by have := (Array.getElem?_eq_some_iff.1 hrow).1; omega) (fun k e => by cases e; omega)))
    have HB := hide HBe
    have HRe := hide hre
    clear hX hres hrow hMk hge HBe hre
    gi_wp2
    refine leaves_marks (base := Na) HMk.out fun w9 hSh => ⟨_, ret_amb rfl _ _ (Z + 1) _ rfl (hSh.row HRe.out) rfl, xg, xc, yg, yc, rfl, ?_, ?_, ?_⟩
    · exact hSh.ownsRow ⟨HX.out.1, HX.out.2.elim .inl (fun ⟨g, c, cur, a, hb, b⟩ => .inr ⟨g, c, cur, a, by omega, b⟩)⟩
    · exact hSh.ownsRow ⟨HY.out.1, HY.out.2.elim .inl (fun ⟨g, c, cur, a, hb, b⟩ => .inr ⟨g, c, cur, a, by omega, b⟩)⟩
    · rw [hZ]; exact hSh.below HB.out (by omega)
end Go.Proofs.YtldgjljecbohoaaGreatDoor

/- decodable.CheckProof: its contract (printed by wip/mk_prc.py behind wip/XPrc.head). -/
set_option linter.unusedVariables false
namespace Go.Proofs.YtldgjljecbohoaaGreatDoor
open Go.RowKit Go.Shelf Go.Maps
attribute [local go_sem] Oper.semAt_some
theorem results_cell_oneP {fn : Func} {p : Tmp} {ty : TypeId} (h : fn.results = #[.cell p ty]) (tmps : Array Value) (P : Program) (w : World) :
    (results fn tmps).run P w = ((asAddr (tmps.getD p undef)).run P w).andThen fun a w₁ => (loadVar ty a).run P w₁ := by
  simp only [results, h]
  simp [Sem.run_bind, Result.andThen]
theorem notAgg (w : World) : (isAgg 40).run Tryz.prog w = .ok false w := by
  have h : (Tryz.prog.underlying 40).map (fun d => match d with | .struct _ | .array _ _ => true | _ => false) = some false := by kernel_rfl
  unfold isAgg
  simp [go_sem, Tryz.underlying40]
theorem ret_errno {fn : Func} {p : Tmp} (h : fn.results = #[.cell p 40]) (tmps : Array Value) (w : World) (a : Addr) (v : Value) (hp : tmps.getD p undef = .pointer (some a)) (hc : w.cell? a = some v) :
    (results fn tmps).run Tryz.prog w = .ok v w := by
  rw [results_cell_oneP h, hp]
  simp [asAddr, Result.andThen, loadVar, Sem.run_bind, notAgg]
  simp [go_sem, hc]
/-- whether the words ws prove the code -/
def prfB (xs ws : List ByteArray) : Bool := !decide ([] ∈ raws ws) && (Sar.fstL (raws xs)).all (fun r => decide (r ∈ raws ws)) && (raws ws).all fun r => (Sar.nxtL (raws xs) r).all fun u => decide (u ∈ raws ws)
def S0 (N k : Nat) : Prop := k < N + 2 ∧ k ≠ N
theorem raws_take (ws : List ByteArray) (k : Nat) (hk : k < ws.length) : raws (ws.take (k + 1)) = raws (ws.take k) ++ [ws[k].data.toList] := by
  unfold raws
  rw [List.take_succ_eq_append_getElem hk, List.map_append]; rfl
theorem Marks.nil_ (base : Nat) (w : World) : Marks base [] w := ⟨[], rfl, by simp, fun E hE => by simp at hE⟩
def Sx (M Z k : Nat) : Prop := k < M ∧ k ≠ Z + 1
/-- between two of the first rests -/
def I6 (M Z N n : Nat) (ws : List ByteArray) (W6 : World) {xs : List ByteArray} (pre : List (FrsT xs)) (W : World) : Prop := (∀ x ∈ pre, x.1.2 ∈ raws ws) ∧ SetB W N n (raws ws) ∧ W.heap[Z + 1]? = some (.cells #[.int .i64 0] 40 (0, 0)) ∧ KS (Sx M Z) W6 W
def J6 (M Z : Nat) (ws : List ByteArray) (W6 : World) {xs : List ByteArray} (c : Code) (pre : List (FrsT xs)) (W : World) : Prop := c = .ret ∧ (∃ x ∈ pre, x.1.2 ∉ raws ws) ∧ W.cell? ⟨Z + 1, 0, none⟩ = some (.int .i64 23) ∧ KS (Sx M Z) W6 W
/-- between two of the next rests -/
def I8 (M Z N R P n cnt : Nat) (Dm : DataW Value) (left : Lit → Bool) (ds : List Deferred) (ws : List ByteArray) (W8 : World) {xs : List ByteArray} {x : ByteArray} (pre : List (NxsT xs x)) (W : World) : Prop :=
  (∀ y ∈ pre, y.1.1 ∈ raws ws) ∧ W.ranges Tryz.prog 9 heldS N R n Dm left cnt ∧ W.heap[Z + 1]? = some (.cells #[.int .i64 0] 40 (0, 0)) ∧ Marks M ds W ∧ KS (Sx (P + 2) Z) W8 W
def J8 (M Z P : Nat) (ds : List Deferred) (ws : List ByteArray) (W8 : World) {xs : List ByteArray} {x : ByteArray} (c : Code) (pre : List (NxsT xs x)) (W : World) : Prop :=
  c = .ret ∧ (∃ y ∈ pre, y.1.1 ∉ raws ws) ∧ W.cell? ⟨Z + 1, 0, none⟩ = some (.int .i64 23) ∧ Marks M ds W ∧ KS (Sx (P + 2) Z) W8 W
set_option maxRecDepth 100000 in
set_option maxHeartbeats 4000000 in
theorem checkProof_go (q : Int) (xs ws : List ByteArray) (A L : Option Addr) (cap lc : Nat) (w : World) (hk : cdk q xs = 0) (hR : RowT w A xs) (hc : xs.length ≤ cap) (hcm : cap ≤ 9223372036854775807) (hL : RowT w L ws) (hwl : ws.length ≤ 65536) (hws : ∀ s ∈ ws, s.size ≤ 65536)
    (hn : xs.length ≤ 64) (hs : ∀ x ∈ xs, x.size ≤ 32) :
    Calls Tryz.prog 60 #[.agg #[.int .i64 q, .slice A xs.length cap], .slice L ws.length lc] w fun e w' => ∃ r : Int, e = .returned (.int .i64 r) ∧ (r == 0) = prfB xs ws ∧ Below w.heap.size w w' := by
  refine (callsIn_wide (n := 3)).1 ?_
  have hmm := @run_makeMap Tryz.prog
  obtain ⟨Z, hZ⟩ : ∃ Z, w.heap.size = Z := ⟨_, rfl⟩
  obtain ⟨W0, hW0⟩ : ∃ W0, (w.alloc (.cells #[.int .i64 q, .slice A xs.length cap] 27)).alloc (.cells #[.int .i64 0] 40) = W0 := ⟨_, rfl⟩
  have hB0 : Below Z w W0 := by rw [← hW0]; exact (((Below.refl _ w).alloc (by omega) _).alloc (by simp; omega) _)
  have hz0 : W0.heap.size = Z + 2 := by rw [← hW0]; simp [hZ]
  have hc0 : W0.heap[Z]? = some (.cells #[.int .i64 q, .slice A xs.length cap] 27 (0, 0)) := by
    rw [← hW0]; exact (Below.heap_alloc _ _ _ (by simp; omega)).trans (heap_at _ _ _ hZ.symm)
  have hr0 : W0.heap[Z + 1]? = some (.cells #[.int .i64 0] 40 (0, 0)) := by rw [← hW0]; exact heap_at _ _ _ (by simp [hZ])
  have hRW : ∀ W, Below Z w W → RowT W A xs ∧ RowT W L ws := fun W hW => ⟨hR.below (by rw [hZ]; exact hW), hL.below (by rw [hZ]; exact hW)⟩
  have HC := hide (callsIn_wide (n := 2).2 (ccheck_any q xs A cap W0 (hRW _ hB0).1 hc hcm))
  rw [hk] at HC
  have hcAt := hide (show ∀ W, Below (Z + 2) W0 W → W.heap[Z]? = some (.cells #[.int .i64 q, .slice A xs.length cap] 27 (0, 0)) ∧ W.heap[Z + 1]? = some (.cells #[.int .i64 0] 40 (0, 0)) ∧ (RowT W A xs ∧ RowT W L ws) ∧ Below Z w W from fun W hW =>
    ⟨(hW.block Z (by omega)).trans hc0, (hW.block _ (by omega)).trans hr0, hRW W (hB0.trans (hW.mono (by omega))), hB0.trans (hW.mono (by omega))⟩)
  have hLb : ∀ b o, L = some ⟨b, o, none⟩ → 0 < ws.length → b < Z := fun b o e h0 => by
    obtain ⟨b', o', e', hb, _⟩ := hL h0
    rw [e] at e'; cases e'; omega
  have hAb : ∀ b o, A = some ⟨b, o, none⟩ → 0 < xs.length → b < Z := fun b o e h0 => by
    obtain ⟨b', o', e', hb, _⟩ := hR h0
    rw [e] at e'; cases e'; omega
  have k00 : W0.cell? ⟨Z, 0, none⟩ = some (.int .i64 q) := (cell_of_row W0 _ 0 _ _ _ hc0).trans rfl
  have k01 : W0.cell? ⟨Z, 1, none⟩ = some (.slice A xs.length cap) := (cell_of_row W0 _ 1 _ _ _ hc0).trans rfl
  have hwl' : decide ((65536 : Int) < (ws.length : Int)) = false := decide_eq_false (by omega)
  clear hc0 hr0 hB0 hRW hR hL hc hcm hk
  refine callsIn_of_wp_marks Tryz.func60 rfl trivial ?_ rfl
  simp only [Tryz.ntmps60, List.size_toArray, List.length_cons, List.length_nil, Nat.reduceAdd, Nat.reduceSub, Array.replicate_succ, Array.replicate_zero, List.push_toArray, List.append_toArray, List.nil_append, List.cons_append]
  gi_wp2_with fail
  refine ⟨trivial, ?_⟩
  (with_reducible refine HC.out.mono ?_)
  rintro e W1 ⟨rfl, hB1⟩
  obtain ⟨h10, h11, ⟨h12, h13⟩, h14⟩ := hcAt.out W1 (hB1.mono (by omega))
  have hz1 : Z + 2 ≤ W1.heap.size := by have := hB1.size; omega
  obtain ⟨N, hN⟩ : ∃ N, W1.heap.size = N := ⟨_, rfl⟩
  have hSm := SetB.made W1
  rw [hN] at hSm
  have hgN : W1.grownBy ((W1.alloc (.map #[] 0)).alloc (.cells #[.map (some N)] 152)) none := (World.grownBy_alloc _ _ none).trans (World.grownBy_alloc _ _ none)
  have hS1 : SetB ((W1.alloc (.map #[] 0)).alloc (.cells #[.map (some N)] 152)) N 0 [] := hSm.kept (World.grownBy_alloc _ _ none) (by simp)
  have hs1 : ((W1.alloc (.map #[] 0)).alloc (.cells #[.map (some N)] 152)).heap.size = N + 2 := by simp [hN]
  have hm1 : ((W1.alloc (.map #[] 0)).alloc (.cells #[.map (some N)] 152)).heap[N + 1]? = some (.cells #[.map (some N)] 152 (0, 0)) := heap_at _ _ _ (by simp [hN])
  obtain ⟨W2, hW2⟩ : ∃ W2, (W1.alloc (.map #[] 0)).alloc (.cells #[.map (some N)] 152) = W2 := ⟨_, rfl⟩
  rw [hW2] at hgN hS1 hs1 hm1
  have HB1 := hide hB1
  clear hB1 HC k00 k01 hW0 hSm
  gi_wp2_with fail
  obtain ⟨h20, h21, ⟨hRx, hRw⟩, hBz⟩ := hcAt.out W2 (HB1.out.mono (by omega) |>.trans ⟨hgN.os, hgN.tape, hgN.output, hgN.size, fun k hk => hgN.block k (by omega) (by simp)⟩)
  have HBz := hide hBz
  have HRx := hide hRx
  have HRw := hide hRw
  clear hcAt h10 h11 h12 h13 h14 hgN hW2 hBz hRx hRw HB1
  gi_loopw [23] (fun iv wr => ∃ k : Nat, iv = .int .i64 k ∧ k ≤ ws.length ∧ SetB wr N k (raws (ws.take k)) ∧ KS (S0 N) W2 wr) (fun iv _ => ws.length - (intOf iv).toNat)
  case atStart => exact ⟨0, rfl, Nat.zero_le _, by simpa [raws] using hS1, KS.refl _ _⟩
  case round =>
    obtain ⟨k, rfl, hk, hS, hks⟩ := hrel
    have hm := hks.cell (p := ⟨N + 1, 0, none⟩) ((cell_of_row W2 _ 0 _ _ _ hm1).trans rfl) ⟨by show N + 1 < _; omega, by show N + 1 ≠ _; omega⟩
    by_cases hlt : k < ws.length
    · obtain ⟨b, o, hLe, hb, hcell⟩ := HRw.out (by omega)
      have hbZ := hLb b o hLe (by omega)
      have c0 := hks.cell (hcell k hlt) ⟨by show b < _; omega, by show b ≠ _; omega⟩
      obtain ⟨w', hrun, hS', hg'⟩ := hS.store (by omega) ws[k] (by have := hws _ (List.getElem_mem hlt); unfold maxLen; omega)
      rw [← raws_take ws k hlt] at hS'
      obtain ⟨sk, hsk⟩ : ∃ sk, ws[k] = sk := ⟨_, rfl⟩
      rw [hsk] at c0 hrun
      have HS' := hide hS'
      have HK' := hide (hks.grown hg' (fun r e h => by cases e; exact h.2 rfl))
      have hk0 : (0 : Int) ≤ (k : Int) := by omega
      have hk1 : (k : Int) < (ws.length : Int) := by omega
      subst hLe
      clear hcell hb hbZ hS hks hS' hg' hsk
      gi_wp2
      refine ⟨⟨k + 1, by go_num, hlt, HS'.out, HK'.out⟩, ?_⟩
      simp [intOf]; omega
    · obtain rfl : k = ws.length := by omega
      rw [List.take_length] at hS
      have hget := hS.get ⟨#[]⟩ (by decide)
      rw [show (⟨#[]⟩ : ByteArray).data.toList = [] from rfl] at hget
      have HS := hide hS
      have HK := hide hks
      obtain ⟨em, hem⟩ : ∃ em, decide ([] ∈ raws ws) = em := ⟨_, rfl⟩
      rw [hem] at hget
      have hll : decide ((ws.length : Int) < (ws.length : Int)) = false := decide_eq_false (by omega)
      clear hlt hk hS hks
      have hr1 := HK.out.cell (p := ⟨Z + 1, 0, none⟩) ((cell_of_row W2 _ 0 _ _ _ h21).trans rfl) ⟨by show Z + 1 < _; omega, by show Z + 1 ≠ _; omega⟩
      have hrb := (HK.out.block (Z + 1) (by omega) ⟨by omega, by omega⟩).trans h21
      have hzf : wr.frozen? ⟨Z + 1, 0, none⟩ = false := by simp [World.frozen?, hrb]
      have hBwr := hide (HBz.out.trans ((HK.out.mono (T := fun k => k < Z) (fun k hk => ⟨by omega, by omega⟩)).below (fun k hk => hk) (by omega)))
      cases em
      · have e0 := HK.out.cell (p := ⟨Z, 0, none⟩) ((cell_of_row W2 _ 0 _ _ _ h20).trans rfl) ⟨by show Z < _; omega, by show Z ≠ _; omega⟩
        have e1 := HK.out.cell (p := ⟨Z, 1, none⟩) ((cell_of_row W2 _ 1 _ _ _ h20).trans rfl) ⟨by show Z < _; omega, by show Z ≠ _; omega⟩
        have HF := hide (fun W => callsIn_wide (n := 2).2 (firsts_in q A xs.length cap W))
        clear hr1 hrb hzf
        gi_wp2_with fail
        refine ⟨trivial, ?_⟩
        (with_reducible refine (HF.out _).mono ?_)
        rintro e w6 ⟨rfl, rfl⟩
        obtain ⟨M, hM⟩ : ∃ M, wr.heap.size = M := ⟨_, rfl⟩
        have hNM : N + 2 ≤ M := by have := HK.out.size; omega
        have hz6 : (wr.alloc (Obj.cells #[Value.int IntKind.i64 q, Value.slice A xs.length cap] 27)).heap.size = M + 1 := by simp [hM]
        have hS6 := HS.out.kept (World.grownBy_alloc wr (Obj.cells #[Value.int IntKind.i64 q, Value.slice A xs.length cap] 27) none) (by simp)
        have hK6 := HK.out.alloc (Obj.cells #[Value.int IntKind.i64 q, Value.slice A xs.length cap] 27)
        have hc6 : (wr.alloc (Obj.cells #[Value.int IntKind.i64 q, Value.slice A xs.length cap] 27)).heap[M]? = some (.cells #[Value.int IntKind.i64 q, Value.slice A xs.length cap] 27 (0, 0)) := heap_at _ _ _ hM.symm
        have hB6 : Below Z w (wr.alloc (Obj.cells #[Value.int IntKind.i64 q, Value.slice A xs.length cap] 27)) := hBwr.out.alloc (by omega) _
        rw [hM]
        generalize wr.alloc (Obj.cells #[Value.int IntKind.i64 q, Value.slice A xs.length cap] 27) = W6 at hz6 hS6 hK6 hc6 hB6 ⊢
        have HRow := hide (show ∀ W, KS (Sx (M + 1) Z) W6 W → RowT W A xs from fun W hW => by
          intro h0
          obtain ⟨b, o, hAe, hbl, hcc⟩ := HRx.out h0
          have hbZ := hAb b o hAe h0
          have hkk := (hK6.mono (T := fun k => k < Z) (fun k hk => ⟨by omega, by omega⟩)).trans (hW.mono (T := fun k => k < Z) (fun k hk => ⟨by omega, by omega⟩))
          exact ⟨b, o, hAe, by have := hW.size; omega, fun k hk => hkk.cell (hcc k hk) (show b < Z from hbZ)⟩)
        have HB6 := hide hB6
        have HK6 := hide hK6
        have hm6 := hK6.cell (p := ⟨N + 1, 0, none⟩) ((cell_of_row W2 _ 0 _ _ _ hm1).trans rfl) ⟨by show N + 1 < _; omega, by show N + 1 ≠ _; omega⟩
        have hr6 := (hK6.block (Z + 1) (by omega) ⟨by omega, by omega⟩).trans h21
        have e06 := hK6.cell (p := ⟨Z, 0, none⟩) ((cell_of_row W2 _ 0 _ _ _ h20).trans rfl) ⟨by show Z < _; omega, by show Z ≠ _; omega⟩
        have e16 := hK6.cell (p := ⟨Z, 1, none⟩) ((cell_of_row W2 _ 1 _ _ _ h20).trans rfl) ⟨by show Z < _; omega, by show Z ≠ _; omega⟩
        clear hK6 hB6 hM e0 e1 hget hm HS HK HF hBwr hll
        gi_wp2
        have hS1 : ∀ k, W6.heap.size ≤ k → ¬ Sx (M + 1) Z k := fun k hk h => by have := h.1; omega
        refine wpIn_rangeFunc_ownH rfl (by omega) (gf := 178) (lb := #[.pointer (some ⟨M, 0, none⟩)]) rfl trivial (enters_of Tryz.func178 (by kernel_rfl) rfl)
          (firstsf_stops 2 (by omega) M cap xs A (by omega) (KS (Sx (M + 1) Z)) (KS.refl _) (fun h k => h.trans k) W6
            (fun W W' hW hK => ?k1))
          (fun h k => h.trans k) (ks_b hS1) (Below.refl _ _) (fun _ => rfl)
          (I6 (M + 1) Z N ws.length ws W6)
          (J6 (M + 1) Z ws W6)
          (fun s X Y row hs hg hr => ?own1)
          (fun c s X Y row hs hg hr => ?own2)
          ⟨(fun x hx => by cases hx), hS6, hr6, KS.refl _ _⟩
          (fun x a' W => a' = { tmps := #[.agg #[.int .i64 q, .slice A xs.length cap], .slice L ws.length lc, .pointer (some ⟨Z, 0, none⟩), undef, .pointer (some ⟨Z + 1, 0, none⟩), .pointer (some ⟨N + 1, 0, none⟩), undef, u7, undef, .string ⟨x.1.2.toArray⟩, undef, undef, .bool false, .agg #[.int .i64 q, .slice A xs.length cap], .int .i64 0, .bool false, .bool false, .slice L ws.length lc, .int .i64 (ws.length : Int), .bool false, .map (some N), .slice L ws.length lc, .int .i64 (ws.length : Int), .int .i64 (ws.length : Int), .bool false, u25, u26, u27, u28, u29, .map (some N), .bool false, .agg #[.int .i64 q, .slice A xs.length cap], .func (.func 178) #[] #[.pointer (some ⟨M, 0, none⟩)], .string x.1.1, .string ⟨x.1.2.toArray⟩, undef, undef, undef, undef, undef, undef, undef, undef, undef, undef, undef, undef, undef, undef, undef, undef, undef, undef, undef], defers := [] })
          ?hax ?assign ?body ?done ?stop
        case k1 =>
          have h1 : KS (Sx (M + 1) Z) W6 W' := (KS.of_below hW (fun k hk => by have := hk.1; omega)).trans hK
          refine ⟨HRow.out _ h1, ?_⟩
          exact h1.cell (p := ⟨M, 1, none⟩) (by rw [cell_of_row W6 _ _ _ _ _ hc6]; rfl) ⟨by show M < _; omega, by show M ≠ _; omega⟩
        case own1 =>
          exact ⟨hs.1, hs.2.1.kept hg (fun e => by have := (hr N e.symm).1; omega), (hg.block _ (Array.getElem?_eq_some_iff.1 hs.2.2.1).1 (fun e => by have := (hr (Z + 1) e.symm).1; omega)).trans hs.2.2.1, hs.2.2.2.grown hg (fun k e h => by have := (hr k e).1; exact hS1 k this h)⟩
        case own2 =>
          obtain ⟨h1, h2, h3, h4⟩ := hs
          exact ⟨h1, h2, hg.cell h3 (fun e => by have := (hr (Z + 1) e.symm).1; omega), h4.grown hg (fun k e h => by have := (hr k e).1; exact hS1 k this h)⟩
        case hax =>
          intro x a' s X Y row hs hg hrow
          exact hs
        case assign =>
          rintro l pre x W K hI hK
          simp only [encF] at hK ⊢
          gi_wp2
          exact hK _ _ (KeepsFrom.refl _ _) (KS.refl _ _) hI rfl
        case body =>
          rintro l pre x a' W _ _ ⟨hIp, hIs, hIr, hIk⟩ rfl hlen
          have hxs : x.1.2.length ≤ 32 := sufs_size (W := raws xs) (n := 32) (fun y hy => by obtain ⟨z, hz, rfl⟩ := List.mem_map.1 hy; simpa using hs z hz) ((Sar.fstL_iff.1 (frs_mem x.2)).suf)
          have hmc := hIk.cell hm6 ⟨by show N + 1 < _; omega, by show N + 1 ≠ _; omega⟩
          have hget := hIs.get ⟨x.1.2.toArray⟩ (by rw [show (⟨x.1.2.toArray⟩ : ByteArray).size = x.1.2.length from by simp [ByteArray.size]]; unfold maxLen; omega)
          rw [show (⟨x.1.2.toArray⟩ : ByteArray).data.toList = x.1.2 from by simp] at hget
          by_cases hin : x.1.2 ∈ raws ws
          · rw [decide_eq_true hin] at hget
            have HPost := hide (show KeepsFrom W6.heap.size W W ∧ KS (Sx (M + 1) Z) W W ∧ I6 (M + 1) Z N ws.length ws W6 (pre ++ [x]) W from ⟨KeepsFrom.refl _ _, KS.refl _ _, (fun y hy => by
              rcases List.mem_append.1 hy with h | h
              · exact hIp y h
              · rw [List.mem_singleton.1 h]; exact hin), hIs, hIr, hIk⟩)
            clear hIp hIs hIr hIk hin
            gi_wp2
            exact HPost.out
          · rw [decide_eq_false hin] at hget
            have hrc : W.cell? ⟨Z + 1, 0, none⟩ = some (.int .i64 0) := cell_of_one hIr
            have hrf : W.frozen? ⟨Z + 1, 0, none⟩ = false := by simp [World.frozen?, hIr]
            have hg1 := grown_setO W (Z + 1) 0 (.int .i64 23)
            have HPost := hide (show KeepsFrom W6.heap.size W (W.setCell ⟨Z + 1, 0, none⟩ (.int .i64 23)) ∧ J6 (M + 1) Z ws W6 .ret (pre ++ [x]) (W.setCell ⟨Z + 1, 0, none⟩ (.int .i64 23)) from
              ⟨KeepsFrom.of_grownBy hg1 (fun j e => by cases e; omega), rfl, ⟨x, by simp, hin⟩, World.cell?_setCell_same _ _ _ hrc, hIk.grown hg1 (fun k e h => by cases e; exact h.2 rfl)⟩)
            clear hIp hIs hIr hIk hin hg1
            gi_wp2
            exact HPost.out
        case done =>
          rintro D ys W hD hys ⟨hIp, hIs, hIr, hIk⟩ hK
          have HAll := hide (show ∀ r ∈ Sar.fstL (raws xs), r ∈ raws ws from fun r hr => by
            rw [← frs_all hys] at hr
            obtain ⟨y, hy, rfl⟩ := List.mem_map.1 hr
            exact hIp y hy)
          have hmc := hIk.cell hm6 ⟨by show N + 1 < _; omega, by show N + 1 ≠ _; omega⟩
          obtain ⟨Dm, hown, hTD⟩ := hIs
          obtain ⟨R, hRn⟩ : ∃ R, W.heap.size = R := ⟨_, rfl⟩
          have hMR : M + 1 ≤ R := by have := hIk.size; omega
          have HTD := hide hTD
          have HM0 := hide (Marks.one hD hK)
          clear hIp hK hTD
          gi_wp2_with (gi_at_range; refine wpListIn_range_own _ rfl _ 152 rfl 9 4 strLawS Tryz.underlying152 _ N ws.length Dm rfl hown ?_; intro w0 hrg0 hg0 hs0)
          rw [hRn] at hrg0 hs0 ⊢
          have HK0 := hide (hIk.grown hg0 (fun k e => by cases e))
          have HR0 := hide ((hg0.block _ (Array.getElem?_eq_some_iff.1 hIr).1 (by simp)).trans hIr)
          have HM1 := hide (HM0.out.kept fun E hE hd => (hg0.block E (Array.getElem?_eq_some_iff.1 hd).1 (by simp)).trans hd)
          clear hIk hIr hg0 HM0 hmc hown
          refine wpIn_loop (fun a' W => ∃ u10 u42 u43 u44 u45 u46 u47 u48 ds, (∃ (left : Lit → Bool) (cnt : Nat), W.ranges Tryz.prog 9 heldS N R ws.length Dm left cnt ∧ Hid (∀ z, z ∈ raws ws → left (.string z) = false → ∀ u ∈ Sar.nxtL (raws xs) z, u ∈ raws ws) ∧ Hid (W.heap[Z + 1]? = some (.cells #[.int .i64 0] 40 (0, 0)) ∧ Marks (M + 1) ds W ∧ KS (Sx (M + 1) Z) W6 W)) ∧ a' = { tmps := #[.agg #[.int .i64 q, .slice A xs.length cap], .slice L ws.length lc, .pointer (some ⟨Z, 0, none⟩), undef, .pointer (some ⟨Z + 1, 0, none⟩), .pointer (some ⟨N + 1, 0, none⟩), undef, u7, undef, undef, u10, undef, .bool false, .agg #[.int .i64 q, .slice A xs.length cap], .int .i64 0, .bool false, .bool false, .slice L ws.length lc, .int .i64 (ws.length : Int), .bool false, .map (some N), .slice L ws.length lc, .int .i64 (ws.length : Int), .int .i64 (ws.length : Int), .bool false, u25, u26, u27, u28, u29, .map (some N), .bool false, .agg #[.int .i64 q, .slice A xs.length cap], .func (.func 178) #[] #[.pointer (some ⟨M, 0, none⟩)], undef, undef, undef, undef, undef, undef, .map (some N), .pointer (some ⟨R, 0, none⟩), u42, u43, u44, u45, u46, u47, u48, undef, undef, undef, undef, undef, undef], defers := ds })
            (fun _ W => W.rangeLeft N R) ?_ ?_
          · refine ⟨_, _, _, _, _, _, _, _, _, ⟨_, _, hrg0, hide fun z hz hl => ?_, hide ⟨HR0.out, by rw [← hz6]; exact HM1.out, HK0.out⟩⟩, rfl⟩
            rw [(HTD.out.2 z).1, decide_eq_true hz] at hl
            cases hl
          · rintro a' wr ⟨u10, u42, u43, u44, u45, u46, u47, u48, ds, ⟨left, cnt, hrg, HP, HI⟩, rfl⟩
            dsimp only
            have hle0 := hrg.left_eq
            clear hrg0 HR0 HM1 HK0 hs0
            refine wpIn_wide.2 ?_
            go_wp2_with (at_next; refine wpList_next_set _ rfl _ rfl N R ws.length Dm (raws ws) HTD.out left cnt rfl hrg ?_ ?_)
            · intro hc0 hl0
              obtain ⟨hIr, hM, hk⟩ := HI.out
              have HPr := hide (show prfB xs ws = true by
                unfold prfB
                rw [hem, show (Sar.fstL (raws xs)).all (fun r => decide (r ∈ raws ws)) = true from List.all_eq_true.2 fun r hr => decide_eq_true (HAll.out r hr),
                  show ((raws ws).all fun r => (Sar.nxtL (raws xs) r).all fun u => decide (u ∈ raws ws)) = true from List.all_eq_true.2 fun z hz => List.all_eq_true.2 fun u hu => decide_eq_true (HP.out z hz (hl0 _) u hu)]
                rfl)
              have hrc : wr.cell? ⟨Z + 1, 0, none⟩ = some (.int .i64 0) := cell_of_one hIr
              have hrf : wr.frozen? ⟨Z + 1, 0, none⟩ = false := by simp [World.frozen?, hIr]
              have HBw := hide (HB6.out.trans ((hk.mono (T := fun k => k < Z) (fun k hk => ⟨by omega, by omega⟩)).below (fun k hk => hk) (by omega)))
              have hg1 := grown_setO wr (Z + 1) 0 (.int .i64 0)
              have HMk := hide (hM.kept fun E hE hd => (hg1.block E (Array.getElem?_eq_some_iff.1 hd).1 (fun e => by cases e; rw [hIr] at hd; cases hd)).trans hd)
              have HR := hide (World.cell?_setCell_same wr ⟨Z + 1, 0, none⟩ (.int .i64 0) hrc)
              clear hIr hM hk hl0 hc0 hrg hle0 HP HI hg1
              go_wp2
              refine wpIn_wide.2 ?_
              go_wp2
              refine leaves_marks (base := M + 1) HMk.out fun w9 hSh => ⟨_, ret_errno rfl _ _ ⟨Z + 1, 0, none⟩ (.int .i64 0) rfl (hSh.cell HR.out), 0, rfl, by rw [HPr.out]; rfl, ?_⟩
              rw [hZ]
              exact hSh.below (Below.setCell HBw.out (p := ⟨Z + 1, 0, none⟩) (by show Z ≤ Z + 1; omega) _) (by omega)
            · intro x w1 cnt1 hxm hmem hlk hrg1 hltc hg1 hs1 hen
              obtain ⟨hIr, hM, hk⟩ := HI.out
              have hIr1 := (hg1.block _ (Array.getElem?_eq_some_iff.1 hIr).1 (by simp; omega)).trans hIr
              have hM1 : Marks (M + 1) ds w1 := hM.kept fun E hE hd => (hg1.block E (Array.getElem?_eq_some_iff.1 hd).1 (fun e => by
                cases e
                obtain ⟨o, ho, hno⟩ := ranges_iter hrg
                rw [ho] at hd
                cases hd
                exact hno _ rfl)).trans hd
              have hk1 := hk.grown hg1 (fun k e h => by cases e; have := h.1; omega)
              have e07 := hk1.cell e06 ⟨by show Z < _; omega, by show Z ≠ _; omega⟩
              have e17 := hk1.cell e16 ⟨by show Z < _; omega, by show Z ≠ _; omega⟩
              have HNx := hide (fun W => nexts_in q A xs.length cap x W)
              have HIr1 := hide hIr1
              have HM1 := hide hM1
              have HK1 := hide hk1
              clear hIr hM hk hIr1 hM1 hk1 HI hrg hg1 hs1
              go_wp2_with (go_at_call 103; with_reducible refine (HNx.out _).mono ?_; rintro e w7 ⟨rfl, rfl⟩)
              obtain ⟨P, hP⟩ : ∃ P, w1.heap.size = P := ⟨_, rfl⟩
              have hRP : R + 1 ≤ P := by have := hrg1.lt; omega
              have g8 : w1.grownBy ((w1.alloc (Obj.cells #[Value.int IntKind.i64 q, Value.slice A xs.length cap] 27)).alloc (Obj.cells #[Value.string x] 9)) none := (World.grownBy_alloc _ _ none).trans (World.grownBy_alloc _ _ none)
              have z8 : ((w1.alloc (Obj.cells #[Value.int IntKind.i64 q, Value.slice A xs.length cap] 27)).alloc (Obj.cells #[Value.string x] 9)).heap.size = P + 2 := by simp [hP]
              have c8 : ((w1.alloc (Obj.cells #[Value.int IntKind.i64 q, Value.slice A xs.length cap] 27)).alloc (Obj.cells #[Value.string x] 9)).heap[P]? = some (.cells #[Value.int IntKind.i64 q, Value.slice A xs.length cap] 27 (0, 0)) := (Below.heap_alloc _ _ _ (by simp; omega)).trans (heap_at _ _ _ hP.symm)
              have s8 : ((w1.alloc (Obj.cells #[Value.int IntKind.i64 q, Value.slice A xs.length cap] 27)).alloc (Obj.cells #[Value.string x] 9)).heap[P + 1]? = some (.cells #[Value.string x] 9 (0, 0)) := heap_at _ _ _ (by simp [hP])
              try rw [hP]
              generalize (w1.alloc (Obj.cells #[Value.int IntKind.i64 q, Value.slice A xs.length cap] 27)).alloc (Obj.cells #[Value.string x] 9) = W8 at g8 z8 c8 s8 ⊢
              have hrg8 := hrg1.kept g8 (by simp) (by simp)
              have hIr8 := (g8.block _ (Array.getElem?_eq_some_iff.1 HIr1.out).1 (by simp)).trans HIr1.out
              have hM8 : Marks (M + 1) ds W8 := HM1.out.kept fun E hE hd => (g8.block E (Array.getElem?_eq_some_iff.1 hd).1 (by simp)).trans hd
              have hk8 := HK1.out.grown g8 (fun k e => by cases e)
              clear g8 HIr1 HM1 HK1 HNx hen e07 e17
              refine (wpIn_wide (n := 3)).1 ?_
              have hS8 : ∀ k, W8.heap.size ≤ k → ¬ Sx (P + 2) Z k := fun k hk h => by have := h.1; omega
              refine wpIn_rangeFunc_ownH rfl (by omega) (gf := 180) (lb := #[.pointer (some ⟨P, 0, none⟩), .pointer (some ⟨P + 1, 0, none⟩)]) rfl trivial (enters_of Tryz.func180 (by kernel_rfl) rfl)
                (nextsf_stops 2 (by omega) P (P + 1) cap xs x A (by omega) (KS (Sx (P + 2) Z)) (KS.refl _) (fun h k => h.trans k) W8
                  (fun W W' hW hK => ?k2))
                (fun h k => h.trans k) (ks_b hS8) (Below.refl _ _) (fun _ => rfl)
                (I8 (M + 1) Z N R P ws.length cnt1 Dm (fun z => left z && !z.sameKey (.string x.data.toList)) ds ws W8)
                (J8 (M + 1) Z P ds ws W8)
                (fun s X Y row hs hg hr => ?own3)
                (fun c s X Y row hs hg hr => ?own4)
                ⟨(fun x hx => by cases hx), hrg8, hIr8, hM8, KS.refl _ _⟩
                (fun y a' W => a' = { tmps := #[.agg #[.int .i64 q, .slice A xs.length cap], .slice L ws.length lc, .pointer (some ⟨Z, 0, none⟩), undef, .pointer (some ⟨Z + 1, 0, none⟩), .pointer (some ⟨N + 1, 0, none⟩), undef, u7, undef, undef, .string x, .string ⟨y.1.1.toArray⟩, .bool false, .agg #[.int .i64 q, .slice A xs.length cap], .int .i64 0, .bool false, .bool false, .slice L ws.length lc, .int .i64 (ws.length : Int), .bool false, .map (some N), .slice L ws.length lc, .int .i64 (ws.length : Int), .int .i64 (ws.length : Int), .bool false, u25, u26, u27, u28, u29, .map (some N), .bool false, .agg #[.int .i64 q, .slice A xs.length cap], .func (.func 178) #[] #[.pointer (some ⟨M, 0, none⟩)], undef, undef, undef, undef, undef, undef, .map (some N), .pointer (some ⟨R, 0, none⟩), .tuple #[.bool true, .string x, .bool true], .bool true, .tuple #[.string x, .bool true], .string x, .agg #[.int .i64 q, .slice A xs.length cap], .string x, .func (.func 180) #[] #[.pointer (some ⟨P, 0, none⟩), .pointer (some ⟨P + 1, 0, none⟩)], .string ⟨y.1.1.toArray⟩, .int .i64 (y.1.2 : Int), undef, undef, undef, undef], defers := [] })
                ?hax2 ?assign2 ?body2 ?done2 ?stop2
              case k2 =>
                have h1 : KS (Sx (P + 2) Z) W8 W' := (KS.of_below hW (fun k hk => by have := hk.1; omega)).trans hK
                refine ⟨HRow.out _ (hk8.trans (h1.mono fun k hk => ⟨by have := hk.1; omega, hk.2⟩)), ?_, ?_⟩
                · exact h1.cell (p := ⟨P, 1, none⟩) (by rw [cell_of_row W8 _ _ _ _ _ c8]; rfl) ⟨by show P < _; omega, by show P ≠ _; omega⟩
                · exact h1.cell (p := ⟨P + 1, 0, none⟩) (by rw [cell_of_row W8 _ _ _ _ _ s8]; rfl) ⟨by show P + 1 < _; omega, by show P + 1 ≠ _; omega⟩
              case own3 =>
                exact ⟨hs.1, hs.2.1.kept hg (fun e => by have := (hr N e.symm).1; omega) (fun e => by have := (hr R e.symm).1; omega), (hg.block _ (Array.getElem?_eq_some_iff.1 hs.2.2.1).1 (fun e => by have := (hr (Z + 1) e.symm).1; omega)).trans hs.2.2.1, (ownFrom_marks (β := Unit) hM8 (Nat.le_refl _)) () X Y row hs.2.2.2.1 hg hr, hs.2.2.2.2.grown hg (fun k e h => by have := (hr k e).1; exact hS8 k this h)⟩
              case own4 =>
                obtain ⟨h1, h2, h3, h4, h5⟩ := hs
                exact ⟨h1, h2, hg.cell h3 (fun e => by have := (hr (Z + 1) e.symm).1; omega), (ownFrom_marks (β := Unit) hM8 (Nat.le_refl _)) () X Y row h4 hg hr, h5.grown hg (fun k e h => by have := (hr k e).1; exact hS8 k this h)⟩
              case hax2 =>
                intro y a' s X Y row hs hg hrow
                exact hs
              case assign2 =>
                rintro l pre y W K hI hK
                simp only [encN] at hK ⊢
                gi_wp2
                exact hK _ _ (KeepsFrom.refl _ _) (KS.refl _ _) hI rfl
              case body2 =>
                rintro l pre y a' W _ _ ⟨hIp, hIg, hIr, hIm, hIk⟩ rfl hlen
                have hys : y.1.1.length ≤ 65536 := by
                  obtain ⟨s0, hs0, hse⟩ := List.mem_map.1 hmem
                  have h1 : x.data.toList.length ≤ 65536 := by rw [← hse]; simpa using hws s0 hs0
                  obtain ⟨z, hz, hor⟩ := Sar.nxtL_iff.1 (nxs_mem y.2)
                  rcases hor with h | ⟨h, _⟩
                  · have := congrArg List.length h
                    rw [List.length_append] at this
                    omega
                  · obtain ⟨z', hz', rfl⟩ := List.mem_map.1 hz
                    have h2 : z'.data.toList.length ≤ 32 := by simpa using hs z' hz'
                    have := congrArg List.length h
                    rw [List.length_append] at this
                    omega
                have hmc := hIk.cell (hk8.cell hm6 ⟨by show N + 1 < _; omega, by show N + 1 ≠ _; omega⟩) ⟨by show N + 1 < _; omega, by show N + 1 ≠ _; omega⟩
                have hget := (show SetB W N ws.length (raws ws) from ⟨Dm, hIg.owns, HTD.out⟩).get ⟨y.1.1.toArray⟩ (by rw [show (⟨y.1.1.toArray⟩ : ByteArray).size = y.1.1.length from by simp [ByteArray.size]]; unfold maxLen; omega)
                rw [show (⟨y.1.1.toArray⟩ : ByteArray).data.toList = y.1.1 from by simp] at hget
                by_cases hin : y.1.1 ∈ raws ws
                · rw [decide_eq_true hin] at hget
                  have HPost := hide (show KeepsFrom W8.heap.size W W ∧ KS (Sx (P + 2) Z) W W ∧ I8 (M + 1) Z N R P ws.length cnt1 Dm (fun z => left z && !z.sameKey (.string x.data.toList)) ds ws W8 (pre ++ [y]) W from ⟨KeepsFrom.refl _ _, KS.refl _ _, (fun u hu => by
                    rcases List.mem_append.1 hu with h | h
                    · exact hIp u h
                    · rw [List.mem_singleton.1 h]; exact hin), hIg, hIr, hIm, hIk⟩)
                  clear hIp hIg hIr hIm hIk hin hys
                  gi_wp2
                  exact HPost.out
                · rw [decide_eq_false hin] at hget
                  have hrc : W.cell? ⟨Z + 1, 0, none⟩ = some (.int .i64 0) := cell_of_one hIr
                  have hrf : W.frozen? ⟨Z + 1, 0, none⟩ = false := by simp [World.frozen?, hIr]
                  have hg1 := grown_setO W (Z + 1) 0 (.int .i64 23)
                  have HPost := hide (show KeepsFrom W8.heap.size W (W.setCell ⟨Z + 1, 0, none⟩ (.int .i64 23)) ∧ J8 (M + 1) Z P ds ws W8 .ret (pre ++ [y]) (W.setCell ⟨Z + 1, 0, none⟩ (.int .i64 23)) from
                    ⟨KeepsFrom.of_grownBy hg1 (fun j e => by cases e; omega), rfl, ⟨y, by simp, hin⟩, World.cell?_setCell_same _ _ _ hrc, hIm.kept (fun E hE hd => (hg1.block E (Array.getElem?_eq_some_iff.1 hd).1 (fun e => by cases e; rw [hIr] at hd; cases hd)).trans hd), hIk.grown hg1 (fun k e h => by cases e; exact h.2 rfl)⟩)
                  clear hIp hIg hIr hIm hIk hin hys hg1
                  gi_wp2
                  exact HPost.out
              case done2 =>
                rintro D2 ys2 W2' hD2 hys2 ⟨hIp, hIg, hIr, hIm, hIk⟩ hK2
                have HM2 := hide (Marks.cons hM8 hIm (by omega) hD2 hK2)
                have HK2 := hide (hk8.trans (hIk.mono fun k hk => ⟨by have := hk.1; omega, hk.2⟩))
                have HP2 := hide (show ∀ z, z ∈ raws ws → (left (.string z) && !(Lit.string z).sameKey (.string x.data.toList)) = false → ∀ u ∈ Sar.nxtL (raws xs) z, u ∈ raws ws from fun z hz hl => by
                  by_cases e : z = x.data.toList
                  · subst e
                    intro u hu
                    rw [← nxs_all hys2] at hu
                    obtain ⟨y, hy, rfl⟩ := List.mem_map.1 hu
                    exact hIp y hy
                  · exact HP.out z hz (by simpa [Lit.sameKey, e] using hl))
                have HG2 := hide hIg
                have HR2 := hide hIr
                clear hIp hIg hIr hIm hIk hK2 hys2 hrg8 hIr8 hM8 hk8 c8 s8
                gi_wp2
                refine ⟨⟨_, _, _, _, _, _, _, _, _, ⟨_, _, HG2.out, HP2, hide ⟨HR2.out, HM2.out, HK2.out⟩⟩, rfl⟩, ?_⟩
                show World.rangeLeft _ N R < World.rangeLeft _ N R
                rw [HG2.out.left_eq, hle0]
                exact hltc
              case stop2 =>
                rintro D2 c pre W hD2 hSp2 ⟨rfl, ⟨y, hy, hin⟩, hr, hm, hk⟩ hK2
                have HPr := hide (show prfB xs ws = false by
                  unfold prfB
                  rw [show ((raws ws).all fun r => (Sar.nxtL (raws xs) r).all fun u => decide (u ∈ raws ws)) = false from by
                    rw [List.all_eq_false]
                    refine ⟨x.data.toList, hmem, ?_⟩
                    rw [Bool.not_eq_true, List.all_eq_false]
                    exact ⟨y.1.1, nxs_mem y.2, by simpa using hin⟩]
                  simp)
                have HM2 := hide (Marks.cons hM8 hm (by omega) hD2 hK2)
                have HBw := hide (HB6.out.trans (((hk8.trans (hk.mono fun k hk => ⟨by have := hk.1; omega, hk.2⟩)).mono (T := fun k => k < Z) (fun k hk => ⟨by omega, by omega⟩)).below (fun k hk => hk) (by omega)))
                have HR2 := hide hr
                clear hy hin hr hm hk hK2
                gi_wp2
                refine leaves_marks (base := M + 1) HM2.out fun w9 hSh => ⟨_, ret_errno rfl _ _ ⟨Z + 1, 0, none⟩ (.int .i64 23) rfl (hSh.cell HR2.out), 23, rfl, by rw [HPr.out]; rfl, ?_⟩
                rw [hZ]
                exact hSh.below HBw.out (by omega)
        case stop =>
          rintro D c pre W hD hSp ⟨rfl, ⟨x, hx, hin⟩, hr, hk⟩ hK
          have HPr := hide (show prfB xs ws = false by
            unfold prfB
            rw [show (Sar.fstL (raws xs)).all (fun r => decide (r ∈ raws ws)) = false from by
              rw [List.all_eq_false]
              exact ⟨x.1.2, frs_mem x.2, by simpa using hin⟩]
            simp)
          have HMk := hide (Marks.one hD hK)
          have HBw := hide (HB6.out.trans ((hk.mono (T := fun k => k < Z) (fun k hk => ⟨by omega, by omega⟩)).below (fun k hk => hk) (by omega)))
          have HR := hide hr
          clear hx hin hr hk hK
          gi_wp2
          refine leaves_marks (base := W6.heap.size) HMk.out fun w9 hSh => ⟨_, ret_errno rfl _ _ ⟨Z + 1, 0, none⟩ (.int .i64 23) rfl (hSh.cell HR.out), 23, rfl, by rw [HPr.out]; rfl, ?_⟩
          rw [hZ]
          exact hSh.below HBw.out (by omega)
      · have HPr := hide (show prfB xs ws = false by unfold prfB; rw [hem]; rfl)
        gi_wp2_with fail
        refine leaves_marks (base := N) (Marks.nil_ _ _) fun w9 hSh => ⟨_, ret_errno rfl _ _ ⟨Z + 1, 0, none⟩ (.int .i64 23) rfl ?_, 23, rfl, by rw [HPr.out]; rfl, ?_⟩
        · exact hSh.cell (World.cell?_setCell_same _ _ _ hr1)
        · rw [hZ]
          exact hSh.below (Below.setCell hBwr.out (p := ⟨Z + 1, 0, none⟩) (by show Z ≤ Z + 1; omega) _) (by omega)
end Go.Proofs.YtldgjljecbohoaaGreatDoor
