import Derived.Test.YtbnpjoiojhnimaaGreatDoorG44
import Derived.Test.YtbnpjoiojhnimaaGreatDoorG45
import Derived.Maps.RangeWalk
import Derived.Test.YtbnpjoiojhnimaaGreatDoorG42
set_option linter.unusedSimpArgs false
set_option linter.unusedVariables false
/- decodable.message at the code {0, 01, 10} of the example: the message 010. -/
namespace Go.Proofs.YtbnpjoiojhnimaaGreatDoor
open Go.Maps Go.RowKit Go.Shelf
section
attribute [local go_sem] Oper.semAt_some
def xA1 : ByteArray := ⟨#[48]⟩
def xA2 : ByteArray := ⟨#[48, 49]⟩
def xA3 : ByteArray := ⟨#[49, 48]⟩
def wA : ByteArray := ⟨#[48, 49, 48]⟩
def xsA : List ByteArray := [xA1, xA2, xA3]
def fS : Nat → Tbl
 | 0 => Tbl.put (fun _ => none) [49] xA2
 | 1 => Tbl.put (Tbl.put (fun _ => none) [49] xA2) [48] wA
 | _ => Tbl.put (Tbl.put (Tbl.put (fun _ => none) [49] xA2) [48] wA) [] wA
def dS : Nat → List (List UInt8)
 | 0 => []
 | 1 => [[49]]
 | _ => [[49], [48]]
def kS : Nat → ByteArray
 | 0 => ⟨#[49]⟩
 | 1 => ⟨#[48]⟩
 | _ => ⟨#[]⟩
theorem kS_only (s : Nat) (hs : s ≤ 2) : (∀ y, (fS s y).isSome = true → y ∉ dS s → y = (kS s).data.toList) ∧ (fS s (kS s).data.toList).isSome = true ∧ (kS s).data.toList ∉ dS s := by
 have hk : s = 0 ∨ s = 1 ∨ s = 2 := by omega
 rcases hk with rfl | rfl | rfl
 ·refine ⟨fun y h hd => ?_, rfl, by decide⟩
  simp only [fS, Tbl.put] at h
  split at h
  ·assumption
  ·cases h
 ·refine ⟨fun y h hd => ?_, rfl, by decide⟩
  simp only [fS, Tbl.put] at h
  split at h
  ·assumption
  ·split at h
   ·rename_i e; exact absurd (by rw [e]; decide) hd
   ·cases h
 ·refine ⟨fun y h hd => ?_, rfl, by decide⟩
  simp only [fS, Tbl.put] at h
  split at h
  ·assumption
  ·split at h
   ·rename_i e; exact absurd (by rw [e]; decide) hd
   ·split at h
    ·rename_i e; exact absurd (by rw [e]; decide) hd
    ·cases h
def sfx (u : List UInt8) (n : Nat) : ByteArray := (ofRaw u).extract (u.length - n) u.length
def addN (f : Tbl) (w : ByteArray) (l : List (List UInt8 × Nat)) : Tbl := l.foldl (fun f x => addM f (ofRaw x.1) (w ++ sfx x.1 x.2)) f
theorem addNsn (f : Tbl) (w : ByteArray) (l : List (List UInt8 × Nat)) (x : List UInt8 × Nat) : addN f w (l ++ [x]) = addM (addN f w l) (ofRaw x.1) (w ++ sfx x.1 x.2) := by
 unfold addN; rw [List.foldl_append]; rfl
def addFs (l : List (ByteArray × List UInt8)) : Tbl := l.foldl (fun f x => addM f (ofRaw x.2) x.1) (fun _ => none)
theorem addFs_sn (l : List (ByteArray × List UInt8)) (x : ByteArray × List UInt8) : addFs (l ++ [x]) = addM (addFs l) (ofRaw x.2) x.1 := by
 unfold addFs; rw [List.foldl_append]; rfl
theorem addFs0 : addFs (frs xsA) = fS 0 := rfl
theorem addN0 : addN (fS 0) xA2 (nxs xsA (kS 0)) = fS 1 := rfl
theorem addN1 : addN (fS 1) wA (nxs xsA (kS 1)) = fS 2 := rfl
theorem wpList_next_tbl (w : World) {ops : Array Oper} {rest : List Oper} {o : Oper} {a : Act} {Q : Exit → Act → World → Prop} (hg : o.guard = none) (it : Operand) (hop : o.op = Op.next it false)
  (b r n : Nat) (D : DataW Value) (f : Tbl) (hD : TblD D f) (left : Lit → Bool) (cnt : Nat) (hit : a.eval it = .pointer (some ⟨r, 0, none⟩)) (h : w.ranges Tryz.prog 9 heldS b r n D left cnt)
  (hDone : cnt = 0 → (∀ kl, left kl = false) → wpList Tryz.prog ops Q rest (a.put o.dst (.tuple #[.bool false])) w)
  (hMore : ∀ (x : ByteArray) (w' : World) (cnt' : Nat), x.size ≤ maxLen → (f x.data.toList).isSome = true → left (.string x.data.toList) = true → w'.ranges Tryz.prog 9 heldS b r n D (fun z => left z && !z.sameKey (.string x.data.toList)) cnt' → cnt' < cnt →
   w.grownBy w' (some r) → w'.heap.size = w.heap.size → (Instr.entry (.pointer (some ⟨r, 0, none⟩))).run Tryz.prog w' = .ok (.tuple #[.string x, .string (getS f x.data.toList)]) w' → wpList Tryz.prog ops Q rest (a.put o.dst (.tuple #[.bool true, .string x, .string (getS f x.data.toList)])) w') :
  wpList Tryz.prog ops Q (o :: rest) a w :=
 wpList_next_ranges (α := ByteArray) (β := Value) w hg it hop 9 strLawS heldS Value.string (fun v => v) (fun key kl hkey => by obtain ⟨x, rfl, _⟩ := Maps.keyOf_str Tryz.underlying9 hkey; exact ⟨⟨x.toArray⟩, rfl⟩) (fun v y _ => ⟨v, rfl⟩)
  b r n D left cnt hit h hDone (fun x v kl y w' cnt' hkey hlk hv hat hrg hlt hgr hsz hen => by
   obtain ⟨x', ex, rfl, hml⟩ := Maps.keyOf_str Tryz.underlying9 hkey
   have e : x = ⟨x'.toArray⟩ := by simpa [encStr] using ex
   subst e
   have hhas := has_true_of_atKey hat
   have hsome : (f (⟨x'.toArray⟩ : ByteArray).data.toList).isSome = true := by rw [← (hD.2 _).1]; exact hhas
   have hv2 : v = .string (getS f (⟨x'.toArray⟩ : ByteArray).data.toList) := by
    obtain ⟨z, hz⟩ := Option.isSome_iff_exists.1 hsome
    have h1 := (hD.2 _).2 z hz (.held undef)
    have h2 := hat (.held undef)
    have h3 : y.1 = DataW.held v := by unfold heldS at hv; cases hv; rfl
    have h4 : (⟨x'.toArray⟩ : ByteArray).data.toList = x' := by simp
    rw [h4] at h1 hz ⊢
    rw [h2, h3] at h1
    unfold getS
    rw [hz]
    simpa using h1
   subst hv2
   exact hMore _ w' cnt' (by rw [show (⟨x'.toArray⟩ : ByteArray).size = x'.length from by simp [ByteArray.size]]; exact hml) hsome (by simpa using hlk) (by simpa using hrg) hlt hgr hsz hen)
def Sb (Z k : Nat) : Prop := k < Z + 6 ∧ k ≠ Z + 1
def Sr (Z k : Nat) : Prop := k < Z + 6 ∧ k ≠ Z + 1 ∧ k ≠ Z + 1 + 1 + 1
def msFn (cb : Nat) : Value := .func (.func 174) #[] #[.pointer (some ⟨cb, 0, none⟩)]
structure MsgW (Z : Nat) (A : Option Addr) (c : Nat) (w W : World) : Prop where
 size : W.heap.size = Z + 6
 below : Below Z w W
 best : MapS W (Z + 1) 0 (fun _ => none)
 dn : ∃ D, W.ownsMap Tryz.prog 9 (plainElem (H := Unit) Tryz.prog 4) (Z + 1 + 1 + 1) 0 D ∧ BSet D []
 cb : W.cell? ⟨Z + 1 + 1, 0, none⟩ = some (.map (some (Z + 1)))
 c0 : W.heap[Z]? = some (.cells #[.int .i64 2, .slice A 3 c] 27 (0, 0))
 ca : W.cell? ⟨Z + 1 + 1 + 1 + 1, 0, none⟩ = some (msFn (Z + 1 + 1))
 c5 : W.heap[Z + 5]? = some (.cells #[.int .i64 2, .slice A 3 c] 27 (0, 0))
def msgW (A : Option Addr) (c : Nat) (w : World) : World :=
 (((((w.alloc (.cells #[.int .i64 2, .slice A 3 c] 27)).alloc (.map #[] 0)).alloc (.cells #[.map (some (w.heap.size + 1))] 230)).alloc (.map #[] 0)).alloc
  (.cells #[msFn (w.heap.size + 1 + 1)] 231)).alloc (.cells #[.int .i64 2, .slice A 3 c] 27)
theorem msgW_facts (A : Option Addr) (c : Nat) (w : World) : MsgW w.heap.size A c w (msgW A c w) := by
 have hz : (msgW A c w).heap.size = w.heap.size + 6 := by unfold msgW; simp
 unfold msgW at hz ⊢
 have lift : ∀ (W : World) (o : Obj) (k : Nat) (x : Obj), W.heap[k]? = some x → (W.alloc o).heap[k]? = some x := fun W o k x h => (Below.heap_alloc W o k (Array.getElem?_eq_some_iff.1 h).1).trans h
 have h2 : (msgW A c w).heap[w.heap.size + 1 + 1]? = some (.cells #[.map (some (w.heap.size + 1))] 230 (0, 0)) := lift _ _ _ _ (lift _ _ _ _ (lift _ _ _ _ (heap_at _ _ _ (by simp))))
 have h4 : (msgW A c w).heap[w.heap.size + 1 + 1 + 1 + 1]? = some (.cells #[msFn (w.heap.size + 1 + 1)] 231 (0, 0)) := lift _ _ _ _ (heap_at _ _ _ (by simp))
 have hm := MapS.made (w.alloc (.cells #[.int .i64 2, .slice A 3 c] 27))
 rw [World.size_alloc] at hm
 have hd := World.ownsMap_made (H := Unit) (((w.alloc (.cells #[.int .i64 2, .slice A 3 c] 27)).alloc (.map #[] 0)).alloc (.cells #[.map (some (w.heap.size + 1))] 230)) Tryz.prog 9 (plainElem (H := Unit) Tryz.prog 4)
 rw [World.size_alloc, World.size_alloc, World.size_alloc] at hd
 have ka : ∀ {W : World} {n : Nat} {f : Tbl} (o : Obj), MapS W (w.heap.size + 1) n f → MapS (W.alloc o) (w.heap.size + 1) n f := fun o h => h.kept (World.grownBy_alloc _ _ none) (by simp)
 exact ⟨hz, (((((((Below.refl _ w).alloc (Nat.le_refl _) _).alloc (by simp) _).alloc (by simp; omega) _).alloc (by simp; omega) _).alloc (by simp; omega) _)).alloc (by simp; omega) _,
  ka _ (ka _ (ka _ (ka _ hm))), ⟨_, (hd.alloc _).alloc _, ⟨[], rfl⟩, fun x => rfl⟩, cell_of_one h2, lift _ _ _ _ (lift _ _ _ _ (lift _ _ _ _ (lift _ _ _ _ (lift _ _ _ _ (heap_at _ _ _ rfl))))), cell_of_one h4, heap_at _ _ _ (by simp)⟩
theorem wpIn_loop_stage {F : Fence} {n : Nat} {P : Program} {c : Code} {Q : Exit → Act → World → Prop} {a : Act} {w : World} (I : Nat → Act → World → Prop) (m : Nat) (hm : 0 < m) (h0 : I 0 a w)
  (round : ∀ s a w, s < m → I s a w → c.wpIn F n P (Exit.then (fun a' w' => s + 1 < m ∧ I (s + 1) a' w') Q) a w) : (Code.loop c).wpIn F n P Q a w := by
 refine wpIn_loop_rounds m ?_
 have key : ∀ (k s : Nat) (a : Act) (w : World), s + k = m → s < m → I s a w → Code.roundsIn F n P c Q k a w := by
  intro k
  induction k with
  | zero => intro s a w h1 h2 _; omega
  | succ k ih =>
   intro s a w h1 h2 hI
   rw [roundsIn_succ]
   refine wpIn_mono (round s a w h2 hI) fun e a' w' he => ?_
   cases e with
   | normal => exact ih (s + 1) a' w' (by omega) he.1 he.2
   | _ => exact he
 exact key m 0 a w (by omega) hm h0
set_option maxRecDepth 100000 in
theorem BSet.look {W : World} {B n : Nat} {D : DataW Unit} {S : List (List UInt8)} (hown : W.ownsMap Tryz.prog 9 (plainElem (H := Unit) Tryz.prog 4) B n D) (hB : BSet D S) (x : ByteArray) (hx : x.size ≤ maxLen) :
  (Instr.lookup 184 (.map (some B)) (.string x) false).run Tryz.prog W = .ok (.bool (decide (x.data.toList ∈ S))) W := by
 obtain ⟨vv, ps, hrun, hv⟩ := hown.lookup strLawR Tryz.underlying184 (zeroBool W) (zd := .lit (.bool false)) (plainElem_bool Tryz.underlying4 false) (WideMaps.keyOf_string_mk (P := Tryz.prog) Tryz.underlying9 hx)
 rw [hB.2] at hv
 obtain ⟨z, hz⟩ : ∃ z, decide (x.data.toList ∈ S) = z := ⟨_, rfl⟩
 rw [hz] at hv ⊢
 have : vv = .bool z := by
  unfold plainElem at hv
  rw [Tryz.underlying4] at hv
  cases vv <;> simp at hv
  rw [hv.1]
 rw [hrun, this]
theorem ranges_iter {H : Type} {P : Program} {k : TypeId} {R : Value → Option (DataW H × List MemPlace)} {w : World} {b r n : Nat} {D : DataW H} {left : Lit → Bool} {cnt : Nat} (h : w.ranges P k R b r n D left cnt) : ∃ o, w.heap[r]? = some o ∧ ∀ d, o ≠ Obj.deferred d := by
 obtain ⟨es, clock, since, seen, c0, hb, F, hs, hD, hr, _⟩ := h
 exact ⟨_, hr, fun d e => by cases e⟩
def Done (Z : Nat) (s : Nat) (W : World) : Prop := ∃ D, W.ownsMap Tryz.prog 9 (plainElem (H := Unit) Tryz.prog 4) (Z + 1 + 1 + 1) s D ∧ BSet D (dS s)
theorem Done.kept {Z s : Nat} {W W' : World} {row : Option Nat} (h : Done Z s W) (hg : W.grownBy W' row) (hne : some (Z + 1 + 1 + 1) ≠ row) : Done Z s W' := by
 obtain ⟨D, h1, h2⟩ := h
 exact ⟨D, h1.kept hg hne, h2⟩
theorem Done.look {Z s : Nat} {W : World} (h : Done Z s W) (x : ByteArray) (hx : x.size ≤ maxLen) : (Instr.lookup 184 (.map (some (Z + 1 + 1 + 1))) (.string x) false).run Tryz.prog W = .ok (.bool (decide (x.data.toList ∈ dS s))) W := by
 obtain ⟨D, h1, h2⟩ := h
 exact h2.look h1 x hx
theorem Done.store {Z s : Nat} {W : World} (h : Done Z s W) (hs : s ≤ 2) (x : ByteArray) (hx : x.size ≤ maxLen) :
  ∃ W', (Instr.mapUpdate 184 (.map (some (Z + 1 + 1 + 1))) (.string x) (.bool true)).run Tryz.prog W = .ok () W' ∧ (∃ D, W'.ownsMap Tryz.prog 9 (plainElem (H := Unit) Tryz.prog 4) (Z + 1 + 1 + 1) (s + 1) D ∧ BSet D (dS s ++ [x.data.toList])) ∧ W.grownBy W' (some (Z + 1 + 1 + 1)) := by
 obtain ⟨D, h1, h2⟩ := h
 obtain ⟨W', hrun, hm, hg⟩ := h1.update strLawR Tryz.underlying184 (by unfold maxLen; omega) (WideMaps.keyOf_string_mk (P := Tryz.prog) Tryz.underlying9 hx) (plainElem_bool Tryz.underlying4 true)
 exact ⟨W', hrun, ⟨_, hm, h2.put _⟩, hg⟩
structure InvM (Z : Nat) (W6 : World) (s : Nat) (ds : List Deferred) (W : World) : Prop where
 best : MapS W (Z + 1) (2 * s + 1) (fS s)
 dn : Done Z s W
 mrk : Marks (Z + 6) ds W
 ks : KS (Sr Z) W6 W
theorem InvM.grown {Z s : Nat} {W6 W W' : World} {ds : List Deferred} {row : Option Nat} (h : InvM Z W6 s ds W) (hg : W.grownBy W' row) (hr : ∀ r, row = some r → Z + 6 ≤ r ∧ ∃ o, W.heap[r]? = some o ∧ ∀ d, o ≠ Obj.deferred d) : InvM Z W6 s ds W' := by
 have hne : ∀ k, k < Z + 6 → some k ≠ row := fun k hk e => by have := (hr k e.symm).1; omega
 refine ⟨h.best.kept hg (hne _ (by omega)), h.dn.kept hg (hne _ (by omega)), h.mrk.kept fun D hD hd => (hg.block D (Array.getElem?_eq_some_iff.1 hd).1 fun e => ?_).trans hd, h.ks.grown hg fun k e hs => hne k hs.1 e.symm⟩
 obtain ⟨_, o, ho, hdd⟩ := hr D e.symm
 rw [hd] at ho
 cases ho
 exact hdd _ rfl
theorem fS_len {s : Nat} {y : List UInt8} (hs : s ≤ 2) (h : (fS s y).isSome = true) : y.length ≤ 1 := by
 have hk : s = 0 ∨ s = 1 ∨ s = 2 := by omega
 rcases hk with rfl | rfl | rfl <;> (simp only [fS, Tbl.put] at h; (repeat' split at h) <;> first | (rename_i e; rw [e]; decide) | cases h)
def S3 (Z M k : Nat) : Prop := Sb Z k ∨ k = M ∨ k = M + 1 ∨ k = M + 1 + 1
structure NextM (A : Option Addr) (c : Nat) (k wv : ByteArray) (Z s M : Nat) (ds : List Deferred) (W6 W : World) : Prop where
 size : W.heap.size = M + 3
 base : Z + 6 ≤ M
 best : MapS W (Z + 1) (2 * s + 1) (fS s)
 dn : Done Z (s + 1) W
 mrk : Marks (Z + 6) ds W
 ks : KS (Sr Z) W6 W
 wc : W.cell? ⟨M, 0, none⟩ = some (.string wv)
 c0 : W.heap[M + 1]? = some (.cells #[.int .i64 2, .slice A 3 c] 27 (0, 0))
 c1 : W.heap[M + 1 + 1]? = some (.cells #[.string k] 9 (0, 0))
theorem nextM_facts (A : Option Addr) (c : Nat) (k wv : ByteArray) (Z s M : Nat) (ds : List Deferred) (W6 W2 : World) (hb : Z + 6 ≤ M) (hM : W2.heap.size = M) (h1 : MapS W2 (Z + 1) (2 * s + 1) (fS s)) (h2 : Done Z (s + 1) W2) (h3 : Marks (Z + 6) ds W2) (h4 : KS (Sr Z) W6 W2) :
  NextM A c k wv Z s M ds W6 (((W2.alloc (Obj.cells #[Value.string wv] 9)).alloc (Obj.cells #[Value.int IntKind.i64 2, Value.slice A 3 c] 27)).alloc (Obj.cells #[Value.string k] 9)) := by
 subst hM
 have lift : ∀ (W : World) (o : Obj) (k : Nat) (x : Obj), W.heap[k]? = some x → (W.alloc o).heap[k]? = some x := fun W o k x h => (Below.heap_alloc W o k (Array.getElem?_eq_some_iff.1 h).1).trans h
 have hg : W2.grownBy (((W2.alloc (Obj.cells #[Value.string wv] 9)).alloc (Obj.cells #[Value.int IntKind.i64 2, Value.slice A 3 c] 27)).alloc (Obj.cells #[Value.string k] 9)) none :=
  ((World.grownBy_alloc _ _ none).trans (World.grownBy_alloc _ _ none)).trans (World.grownBy_alloc _ _ none)
 exact ⟨by simp, hb, h1.kept hg (by simp), h2.kept hg (by simp), h3.kept fun D _ hD => lift _ _ _ _ (lift _ _ _ _ (lift _ _ _ _ hD)), h4.grown hg (fun _ e => by cases e),
  cell_of_one (lift _ _ _ _ (lift _ _ _ _ (heap_at _ _ _ rfl))), lift _ _ _ _ (heap_at _ _ _ (by simp)), heap_at _ _ _ (by simp)⟩
def I3 (Z M s : Nat) (wv : ByteArray) (ds : List Deferred) (Wn : World) {k : ByteArray} (pre : List (NxsT xsA k)) (W : World) : Prop := MapS W (Z + 1) (2 * s + 1 + pre.length) (addN (fS s) wv (pre.map Subtype.val)) ∧ Marks (Z + 6) ds W ∧ KS (S3 Z M) Wn W
theorem I3.add {Z M s : Nat} {wv : ByteArray} {ds : List Deferred} {Wn : World} {k : ByteArray} {pre : List (NxsT xsA k)} {y : NxsT xsA k} {W W' : World} (hb : Z + 6 ≤ M) (hz : Wn.heap.size = M + 3) (hmk : Marks (Z + 6) ds W) (hks : KS (S3 Z M) Wn W)
  (ha : MapS W' (Z + 1) (2 * s + 1 + pre.length + 1) (addM (addN (fS s) wv (pre.map Subtype.val)) (ofRaw y.1.1) (wv ++ sfx y.1.1 y.1.2))) (hg : W.grownBy W' (some (Z + 1))) : KeepsFrom Wn.heap.size W W' ∧ KS (S3 Z M) W W' ∧ I3 Z M s wv ds Wn (pre ++ [y]) W' := by
 have hk2 : KS (S3 Z M) W W' := (KS.refl _ _).grown hg (fun k e h => by cases e; rcases h with h | h | h | h; exact h.2 rfl; omega; omega; omega)
 refine ⟨KeepsFrom.of_grownBy hg (fun j e => by cases e; omega), hk2, ?_, hmk.kept fun D hD hd => (hg.block D (Array.getElem?_eq_some_iff.1 hd).1 (by simp; omega)).trans hd, hks.trans hk2⟩
 rw [List.map_append, List.map_cons, List.map_nil, addNsn, List.length_append]
 exact ha
def PickP (s : Nat) (left : Lit → Bool) (next : ByteArray) (found : Bool) : Prop :=
 (found = false → next = ⟨#[]⟩ ∧ ∀ y, (fS s y).isSome = true → left (.string y) = false → y ∈ dS s) ∧ (found = true → (fS s next.data.toList).isSome = true ∧ next.data.toList ∉ dS s)
theorem PickP.skip {s : Nat} {left : Lit → Bool} {next : ByteArray} {found : Bool} {x : List UInt8} (h : PickP s left next found) (hx : found = false → x ∈ dS s) : PickP s (fun z => left z && !z.sameKey (.string x)) next found := by
 refine ⟨fun hf => ⟨(h.1 hf).1, fun y hy hl => ?_⟩, h.2⟩
 by_cases e : y = x
 ·rw [e]; exact hx hf
 ·refine (h.1 hf).2 y hy ?_
  simpa [Lit.sameKey, e] using hl
theorem PickP.take {s : Nat} {left : Lit → Bool} {x : ByteArray} (h1 : (fS s x.data.toList).isSome = true) (h2 : x.data.toList ∉ dS s) : PickP s left x true := ⟨fun h => (nomatch h), fun _ => ⟨h1, h2⟩⟩
theorem PickP.end_ {s : Nat} (hs : s ≤ 2) {left : Lit → Bool} {next : ByteArray} {found : Bool} (h : PickP s left next found) (hl : ∀ kl, left kl = false) : found = true ∧ next = kS s := by
 obtain ⟨k1, k2, k3⟩ := kS_only s hs
 have hf : found = true := by
  cases found with
  | true => rfl
  | false => exact absurd ((h.1 rfl).2 _ k2 (hl _)) k3
 obtain ⟨a, b⟩ := h.2 hf
 refine ⟨hf, ?_⟩
 have := k1 _ a b
 cases next with | mk a => cases hk : kS s with | mk c => rw [hk] at this; simpa using Array.toList_inj.1 this
def IM1 (Z : Nat) (W6 : World) (pre : List (FrsT xsA)) (W : World) : Prop := MapS W (Z + 1) pre.length (addFs (pre.map Subtype.val)) ∧ KS (Sb Z) W6 W
set_option maxRecDepth 100000 in
set_option maxHeartbeats 4000000 in
theorem message_A (A : Option Addr) (cap : Nat) (w : World) (hR : RowT w A xsA) :
  Calls Tryz.prog 114 #[.agg #[.int .i64 2, .slice A 3 cap]] w fun e w' => e = .returned (.tuple #[.string wA, .bool true]) ∧ Below w.heap.size w w' := by
 refine (callsIn_wide (n := 3)).1 ?_
 have hmm := @run_makeMap Tryz.prog
 have hsf : ∀ (a : Addr) (m : Mode) (fn : Fn) (first cap : Array Value) (W : World), (store a (.func fn first cap) m).run Tryz.prog W = stored Tryz.prog W a (.func fn first cap) m := fun a m fn first cap W => run_store Tryz.prog W a _ m rfl
 obtain ⟨Z, hZ⟩ : ∃ Z, w.heap.size = Z := ⟨_, rfl⟩
 have HF := hide (fun W => callsIn_wide (n := 2).2 (firsts_in 2 A 3 cap W))
 refine callsIn_of_wp_marks Tryz.func114 rfl trivial ?_ rfl
 simp only [Tryz.ntmps114, List.size_toArray, List.length_cons, List.length_nil, Nat.reduceAdd, Nat.reduceSub, Array.replicate_succ, Array.replicate_zero, List.push_toArray, List.append_toArray, List.nil_append, List.cons_append]
 have hW := msgW_facts A cap w
 rw [hZ] at hW
 gi_wp2_with fail
 refine ⟨trivial, ?_⟩
 (with_reducible refine (HF.out _).mono ?_)
 rintro e w6 ⟨rfl, rfl⟩
 have hsz : (((((w.alloc (.cells #[.int .i64 2, .slice A 3 cap] 27)).alloc (.map #[] 0)).alloc (.cells #[.map (some (Z + 1))] 230)).alloc (.map #[] 0)).alloc
  (.cells #[msFn (Z + 1 + 1)] 231)).heap.size = Z + 5 := by simp [hZ]
 unfold msFn at hsz
 rw [hsz]
 unfold msgW msFn at hW
 rw [hZ] at hW
 generalize ((((((w.alloc (Obj.cells #[Value.int IntKind.i64 2, Value.slice A 3 cap] 27)).alloc (Obj.map #[] 0)).alloc (Obj.cells #[Value.map (some (Z + 1))] 230)).alloc (Obj.map #[] 0)).alloc
  (Obj.cells #[Value.func (Fn.func 174) #[] #[Value.pointer (some { block := Z + 1 + 1, off := 0 })]] 231)).alloc (Obj.cells #[Value.int IntKind.i64 2, Value.slice A 3 cap] 27)) = W6 at hW ⊢
 clear hsz hmm hsf HF
 gi_wp2
 have HRow := hide (show ∀ W, KS (Sr Z) W6 W → RowT W A xsA from fun W hW7 => by
  intro h0
  obtain ⟨b, o, hAb, hbl, hc⟩ := hR h0
  have hB : Below Z w W := hW.below.trans (hW7.mono (T := fun k => k < Z) (fun k hk => ⟨by omega, by omega, by omega⟩) |>.below (fun k hk => hk) (by have := hW.size; omega))
  rw [hZ] at hbl
  refine ⟨b, o, hAb, Nat.lt_of_lt_of_le (by omega) hB.size, fun k hk => ?_⟩
  exact (hB.cell (p := ⟨b, o + k, none⟩) hbl).trans (hc k hk))
 have hsz6 := hW.size
 have hSb : ∀ k, W6.heap.size ≤ k → ¬ Sb Z k := fun k hk h => by have := h.1; omega
 have hrb : ∀ k, Sr Z k → Sb Z k := fun k h => ⟨h.1, h.2.1⟩
 have HW := hide hW
 have hb6 := hW.best
 have hca6 := hW.ca
 have hcb6 := hW.cb
 have hc5 := hW.c5
 clear hW
 refine wpIn_rangeFunc_ownH rfl (by omega) (gf := 193) (lb := #[.pointer (some ⟨Z + 5, 0, none⟩)]) rfl trivial (enters_of Tryz.func193 (by kernel_rfl) rfl)
  (firstsf_stops 2 (by omega) (Z + 5) cap xsA A (by decide) (KS (Sb Z)) (KS.refl _) (fun h k => h.trans k) W6
   (fun W W' hW hK => ?k1))
  (fun h k => h.trans k) (ks_b hSb) (Below.refl _ _) (fun _ => rfl)
  (IM1 Z W6)
  (fun _ _ _ => False)
  (OwnFrom.and (fun s X Y row hs hg hr => ?own1) (ownFrom_ks (fun k h1 _ => hSb k h1) (Nat.le_refl _)))
  (fun _ _ _ _ _ hs _ _ => hs)
  ⟨hb6, KS.refl _ _⟩
  (fun x a' W => a' = { tmps := #[.agg #[.int .i64 2, .slice A 3 cap], .pointer (some ⟨Z, 0, none⟩), .string ⟨#[]⟩, .bool false, .pointer (some ⟨Z + 1 + 1, 0, none⟩), .map (some (Z + 1 + 1 + 1)), .pointer (some ⟨Z + 1 + 1 + 1 + 1, 0, none⟩), .string x.1.1, .string ⟨x.1.2.toArray⟩, undef, undef, undef, undef, undef, undef, undef, .map (some (Z + 1)), .map (some (Z + 1 + 1 + 1)), .func (.func 174) #[] #[.pointer (some ⟨Z + 1 + 1, 0, none⟩)], .agg #[.int .i64 2, .slice A 3 cap], .func (.func 193) #[] #[.pointer (some ⟨Z + 5, 0, none⟩)], .string x.1.1, .string ⟨x.1.2.toArray⟩, undef, undef, undef, undef, undef, undef, undef, undef, undef, undef, undef, undef, undef, undef, undef, undef, undef, undef, undef, undef, undef, undef, undef, undef, undef, undef, undef, undef, undef, undef, undef, undef, undef, undef, undef, undef, undef, undef, undef, undef, undef, undef, undef, undef, undef, undef, undef, undef, undef, undef, undef, undef, undef, undef, undef, undef, undef, undef, undef], defers := [] })
  ?hax ?assign ?body ?done ?stop
 case k1 =>
  have h1 : KS (Sb Z) W6 W' := (KS.of_below hW (fun k hk => by have := hk.1; omega)).trans hK
  refine ⟨HRow.out _ (h1.mono hrb), ?_⟩
  exact h1.cell (p := ⟨Z + 5, 1, none⟩) (by rw [cell_of_row W6 _ _ _ _ _ hc5]; rfl) ⟨by show Z + 5 < _; omega, by show Z + 5 ≠ _; omega⟩
 case own1 =>
  exact hs.kept hg (fun e => by have := (hr _ e.symm).1; omega)
 case hax =>
  intro x a' s X Y row hs hg hrow
  exact hs
 case assign =>
  rintro l pre x W K hI hK
  simp only [encF] at hK ⊢
  gi_wp2
  exact hK _ _ (KeepsFrom.refl _ _) (KS.refl _ _) hI rfl
 case body =>
  rintro l pre x a' W _ _ ⟨hm, hks⟩ rfl hlen
  have hca := hks.cell hca6 ⟨by show Z + 1 + 1 + 1 + 1 < _; omega, by show Z + 1 + 1 + 1 + 1 ≠ _; omega⟩
  have hcb := hks.cell hcb6 ⟨by show Z + 1 + 1 < _; omega, by show Z + 1 + 1 ≠ _; omega⟩
  have hmem : x.1 = (xA2, [49]) := List.mem_singleton.1 (show x.1 ∈ [(xA2, [49])] from x.2)
  have hlen1 : pre.length < 1 := hlen
  have HAdd := hide (msAdd_any (ofRaw x.1.2) x.1.1 (by rw [hmem]; decide) (Z + 1) (Z + 1 + 1) pre.length _ W hm (by omega) hcb (by omega))
  unfold ofRaw at HAdd
  unfold msFn at hca
  have HI2 := hide (show ∀ W', MapS W' (Z + 1) (pre.length + 1) (addM (addFs (pre.map Subtype.val)) (ofRaw x.1.2) x.1.1) → W.grownBy W' (some (Z + 1)) → KeepsFrom W6.heap.size W W' ∧ KS (Sb Z) W W' ∧ IM1 Z W6 (pre ++ [x]) W' from fun W' h1 hg => by
   have hk2 : KS (Sb Z) W W' := (KS.refl _ _).grown hg (fun k e h => by cases e; exact h.2 rfl)
   refine ⟨KeepsFrom.of_grownBy hg (fun j e => by cases e; omega), hk2, ?_, hks.trans hk2⟩
   rw [List.map_append, List.map_cons, List.map_nil, addFs_sn, List.length_append]
   exact h1)
  clear hm hks hmem hlen1 hcb
  gi_wp2_with fail
  refine ⟨trivial, ?_⟩
  (with_reducible refine (CallsIn.inRound l (callsIn_wide.2 HAdd.out)).mono ?_)
  rintro e w' ⟨rfl, ha, hg⟩
  have HR2 := hide (HI2.out w' ha hg)
  clear ha hg HAdd HI2
  gi_wp2
  exact HR2.out
 case done =>
  rintro D ys W hD hys ⟨hm, hks⟩ hK
  rw [hys, addFs0] at hm
  have hM : Marks (Z + 6) [mark D] W := Marks.one (by omega) hK
  have hI0 : InvM Z W6 0 [mark D] W := ⟨hm.mono (by rw [← List.length_map (f := Subtype.val), hys]; decide), by
   obtain ⟨Dd, h1, h2⟩ := HW.out.dn
   refine ⟨Dd, ?_, h2⟩
   obtain ⟨es, clock, hb, F, hs, rfl⟩ := h1
   exact ⟨es, clock, (hks.block _ (Array.getElem?_eq_some_iff.1 hb).1 ⟨by omega, by omega⟩).trans hb, F, hs, rfl⟩, hM, hks.mono hrb⟩
  clear hm hM hks hys hK hb6 hcb6 hc5
  gi_wp2
  refine wpIn_loop_stage (fun s a' W => ∃ u9 u10 u11 u12 u13 u27 u28 u29 u30 u31 u32 u33 u34 u35 u36 u37 u38 u39 u40 u41 u42 u43 u44 u45 u46 u47 u48 u49 u50 u51 u52 u53 u54 u55 u56 u57 u58 u59 u60 u61 u62 u63 u64 u65 u66 u67 u68 ds, InvM Z W6 s ds W ∧ a' = { tmps := #[.agg #[.int .i64 2, .slice A 3 cap], .pointer (some ⟨Z, 0, none⟩), .string ⟨#[]⟩, .bool false, .pointer (some ⟨Z + 1 + 1, 0, none⟩), .map (some (Z + 1 + 1 + 1)), .pointer (some ⟨Z + 1 + 1 + 1 + 1, 0, none⟩), undef, undef, u9, u10, u11, u12, u13, undef, undef, .map (some (Z + 1)), .map (some (Z + 1 + 1 + 1)), .func (.func 174) #[] #[.pointer (some ⟨Z + 1 + 1, 0, none⟩)], .agg #[.int .i64 2, .slice A 3 cap], .func (.func 193) #[] #[.pointer (some ⟨Z + 5, 0, none⟩)], undef, undef, undef, undef, undef, undef, u27, u28, u29, u30, u31, u32, u33, u34, u35, u36, u37, u38, u39, u40, u41, u42, u43, u44, u45, u46, u47, u48, u49, u50, u51, u52, u53, u54, u55, u56, u57, u58, u59, u60, u61, u62, u63, u64, u65, u66, u67, u68, undef, undef, undef, undef, undef, undef, undef, undef, undef, undef, undef, undef, undef], defers := ds }) 3 (by omega) ⟨_, _, _, _, _, _, _, _, _, _, _, _, _, _, _, _, _, _, _, _, _, _, _, _, _, _, _, _, _, _, _, _, _, _, _, _, _, _, _, _, _, _, _, _, _, _, _, _, hI0, rfl⟩ ?_
  rintro s a' wr hs3 ⟨u9, u10, u11, u12, u13, u27, u28, u29, u30, u31, u32, u33, u34, u35, u36, u37, u38, u39, u40, u41, u42, u43, u44, u45, u46, u47, u48, u49, u50, u51, u52, u53, u54, u55, u56, u57, u58, u59, u60, u61, u62, u63, u64, u65, u66, u67, u68, ds, hI, rfl⟩
  clear hI0
  dsimp only
  have hs : s ≤ 2 := by omega
  have hcb : wr.cell? ⟨Z + 1 + 1, 0, none⟩ = some (.map (some (Z + 1))) := hI.ks.cell HW.out.cb ⟨by show Z + 1 + 1 < _; omega, by show Z + 1 + 1 ≠ _; omega, by show Z + 1 + 1 ≠ _; omega⟩
  obtain ⟨Db, hown, hTD⟩ := hI.best
  obtain ⟨N, hN⟩ : ∃ N, wr.heap.size = N := ⟨_, rfl⟩
  have hZN : Z + 6 ≤ N := by have := hI.ks.size; omega
  have HI := hide hI
  have HTD := hide hTD
  clear hI hTD
  gi_wp2_with (gi_at_range; refine wpListIn_range_own _ rfl _ 230 rfl 9 9 strLawS Tryz.underlyingSmap _ (Z + 1) (2 * s + 1) Db rfl hown ?_; intro w0 hrg0 hg0 hs0)
  rw [hN] at hrg0 hs0 ⊢
  have HI0 := hide (HI.out.grown hg0 (fun r e => by cases e))
  clear hg0 HI
  go_frame
  gi_loopw [9, 10] (fun nv fv wv => ∃ (left : Lit → Bool) (cnt : Nat) (next : ByteArray) (found : Bool), nv = .string next ∧ fv = .bool found ∧ wv.ranges Tryz.prog 9 heldS (Z + 1) N (2 * s + 1) Db left cnt ∧ Hid (PickP s left next found) ∧ Hid (InvM Z W6 s ds wv)) (fun _ _ wv => wv.rangeLeft (Z + 1) N)
  case atStart => exact ⟨_, _, ⟨#[]⟩, false, rfl, rfl, hrg0, hide ⟨fun _ => ⟨rfl, fun y hy hl => by rw [(HTD.out.2 y).1, hy] at hl; cases hl⟩, fun h => by cases h⟩, HI0⟩
  case round =>
   obtain ⟨left, cnt, next, found, rfl, rfl, hrg, HP, HI⟩ := hrel
   clear hrg0 HI0 hs0 hcb hown
   have hle0 := hrg.left_eq
   refine wpIn_wide.2 ?_
   go_wp2_with (at_next; refine wpList_next_tbl _ rfl _ rfl (Z + 1) N (2 * s + 1) Db (fS s) HTD.out left cnt rfl hrg ?_ ?_)
   ·intro hc0 hl0
    obtain ⟨rfl, rfl⟩ := HP.out.end_ hs hl0
    have hI := HI.out
    have hcb : wr.cell? ⟨Z + 1 + 1, 0, none⟩ = some (.map (some (Z + 1))) := hI.ks.cell HW.out.cb ⟨by show Z + 1 + 1 < _; omega, by show Z + 1 + 1 ≠ _; omega, by show Z + 1 + 1 ≠ _; omega⟩
    have hksz : (kS s).size ≤ 1 := by have := fS_len hs (kS_only s hs).2.1; simpa using this
    have hget := hI.best.get (kS s) (by unfold maxLen; omega)
    clear hl0 hc0 hrg hle0
    by_cases hs2 : s = 2
    ·subst hs2
     have hke : (kS 2).toList.isEmpty = true := by rw [ByteArray.toList_eq]; rfl
     rw [show getS (fS 2) (kS 2).data.toList = wA from rfl] at hget
     obtain ⟨k, hk⟩ : ∃ k, kS 2 = k := ⟨_, rfl⟩
     rw [hk] at hke hget ⊢
     have HM2 := hide hI.mrk
     have HK2 := hide hI.ks
     clear hk hksz HI hI HP
     go_wp2
     refine wpIn_wide.2 ?_
     go_wp2
     refine leaves_marks (base := Z + 6) HM2.out fun w9 hSh => ⟨_, results_tmp2 rfl _ _ _, rfl, ?_⟩
     rw [hZ]
     exact hSh.below (HW.out.below.trans ((HK2.out.mono (T := fun k => k < Z) (fun k hk => ⟨by omega, by omega, by omega⟩)).below (fun k hk => hk) (by omega))) (by omega)
    ·have hke : (kS s).toList.isEmpty = false := by
      have hk : s = 0 ∨ s = 1 := by omega
      rcases hk with rfl | rfl <;> (rw [ByteArray.toList_eq]; rfl)
     have hstep : addN (fS s) (getS (fS s) (kS s).data.toList) (nxs xsA (kS s)) = fS (s + 1) ∧ (nxs xsA (kS s)).length ≤ 2 ∧ (∀ y ∈ nxs xsA (kS s), y.1.length ≤ 1 ∧ y.2 ≤ y.1.length) ∧ (getS (fS s) (kS s).data.toList).size ≤ 3 := by
      have hk : s = 0 ∨ s = 1 := by omega
      rcases hk with rfl | rfl
      ·exact ⟨addN0, by decide, by decide, by decide⟩
      ·exact ⟨addN1, by decide, by decide, by decide⟩
     have hdS : dS (s + 1) = dS s ++ [(kS s).data.toList] := by
      have hk : s = 0 ∨ s = 1 := by omega
      rcases hk with rfl | rfl <;> rfl
     obtain ⟨W2, hrun2, hdn2, hg2⟩ := hI.dn.store hs (kS s) (by unfold maxLen; omega)
     rw [← hdS] at hdn2
     obtain ⟨k, hk⟩ : ∃ k, kS s = k := ⟨_, rfl⟩
     rw [hk] at hke hget hrun2 hstep hksz ⊢
     have hb2 := hI.best.kept hg2 (by simp <;> omega)
     have hm2 : Marks (Z + 6) ds W2 := hI.mrk.kept fun D hD hd => (hg2.block D (Array.getElem?_eq_some_iff.1 hd).1 (by simp <;> omega)).trans hd
     have hk2 : KS (Sr Z) W6 W2 := hI.ks.grown hg2 fun k e h => by cases e; exact h.2.2 rfl
     have hcb2 := hg2.cell hcb (by simp <;> omega)
     have hget2 := hb2.get k (by unfold maxLen; omega)
     obtain ⟨wv, hwv⟩ : ∃ wv, getS (fS s) k.data.toList = wv := ⟨_, rfl⟩
     rw [hwv] at hget hget2 hstep
     obtain ⟨M, hM⟩ : ∃ M, W2.heap.size = M := ⟨_, rfl⟩
     have hZM : Z + 6 ≤ M := by have := hk2.size; omega
     have hd0 : W2.cell? ⟨Z, 0, none⟩ = some (.int .i64 2) := hk2.cell (p := ⟨Z, 0, none⟩) (by rw [cell_of_row W6 _ _ _ _ _ HW.out.c0]; rfl) ⟨by show Z < _; omega, by show Z ≠ _; omega, by show Z ≠ _; omega⟩
     have hd1 : W2.cell? ⟨Z, 1, none⟩ = some (.slice A 3 cap) := hk2.cell (p := ⟨Z, 1, none⟩) (by rw [cell_of_row W6 _ _ _ _ _ HW.out.c0]; rfl) ⟨by show Z < _; omega, by show Z ≠ _; omega, by show Z ≠ _; omega⟩
     have hd0n := (World.cell?_alloc_lt W2 (Obj.cells #[Value.string wv] 9) ⟨Z, 0, none⟩ (by show Z < _; omega)).trans hd0
     have hd1n := (World.cell?_alloc_lt W2 (Obj.cells #[Value.string wv] 9) ⟨Z, 1, none⟩ (by show Z < _; omega)).trans hd1
     have HNx := hide (fun W => callsIn_wide (n := 2).2 (nexts_in 2 A 3 cap k W))
     have HB2 := hide hb2
     have HM2 := hide hm2
     have HK2 := hide hk2
     have HD2 := hide hdn2
     have HStep := hide hstep
     clear hk HI hI HP hg2 hb2 hm2 hk2 hdn2 hdS hwv hstep hd0 hd1
     go_wp2
     gi_wp2_with fail
     refine ⟨trivial, ?_⟩
     (with_reducible refine (HNx.out _).mono ?_)
     rintro e w7 ⟨rfl, rfl⟩
     have hNF := nextM_facts A cap k wv Z s M ds W6 W2 hZM hM HB2.out HD2.out HM2.out HK2.out
     rw [show (W2.alloc (Obj.cells #[Value.string wv] 9)).heap.size = M + 1 by simp [hM]]
     generalize ((W2.alloc (Obj.cells #[Value.string wv] 9)).alloc (Obj.cells #[Value.int IntKind.i64 2, Value.slice A 3 cap] 27)).alloc (Obj.cells #[Value.string k] 9) = Wn at hNF ⊢
     clear hM HB2 HM2 HK2 HD2 HNx hd0n hd1n hcb2 hget hget2 hrun2 hcb hke
     gi_wp2
     have hs3' : ∀ k, Wn.heap.size ≤ k → ¬ S3 Z M k := fun k hk h => by
      have := hNF.size
      have := hNF.base
      rcases h with h | h | h | h
      ·have := h.1; omega
      ·omega
      ·omega
      ·omega
     have hcaN : Wn.cell? ⟨Z + 1 + 1 + 1 + 1, 0, none⟩ = some (msFn (Z + 1 + 1)) := hNF.ks.cell HW.out.ca ⟨by show Z + 1 + 1 + 1 + 1 < _; omega, by show Z + 1 + 1 + 1 + 1 ≠ _; omega, by show Z + 1 + 1 + 1 + 1 ≠ _; omega⟩
     have hcbN : Wn.cell? ⟨Z + 1 + 1, 0, none⟩ = some (.map (some (Z + 1))) := hNF.ks.cell HW.out.cb ⟨by show Z + 1 + 1 < _; omega, by show Z + 1 + 1 ≠ _; omega, by show Z + 1 + 1 ≠ _; omega⟩
     refine wpIn_rangeFunc_ownH rfl (by omega) (gf := 195) (lb := #[.pointer (some ⟨M + 1, 0, none⟩), .pointer (some ⟨M + 1 + 1, 0, none⟩)]) rfl trivial (enters_of Tryz.func195 (by kernel_rfl) rfl)
      (nextsf_stops 2 (by omega) (M + 1) (M + 1 + 1) cap xsA k A (by decide) (KS (S3 Z M)) (KS.refl _) (fun h k => h.trans k) Wn
       (fun W W' hW hK => ?k2))
      (fun h k => h.trans k) (ks_b hs3') (Below.refl _ _) (fun _ => rfl)
      (I3 Z M s wv ds Wn)
      (fun _ _ _ => False)
      (OwnFrom.and (fun S X Y row hS hg hr => ?own2) (OwnFrom.and (ownFrom_marks hNF.mrk (Nat.le_refl _)) (ownFrom_ks (fun k h1 _ => hs3' k h1) (Nat.le_refl _))))
      (fun _ _ _ _ _ hs _ _ => hs)
      ⟨hNF.best, hNF.mrk, KS.refl _ _⟩
      (fun y a' W => a' = { tmps := #[.agg #[.int .i64 2, .slice A 3 cap], .pointer (some ⟨Z, 0, none⟩), .string ⟨#[]⟩, .bool false, .pointer (some ⟨Z + 1 + 1, 0, none⟩), .map (some (Z + 1 + 1 + 1)), .pointer (some ⟨Z + 1 + 1 + 1 + 1, 0, none⟩), undef, undef, .string k, .bool true, u11, u12, .pointer (some ⟨M, 0, none⟩), .string ⟨y.1.1.toArray⟩, .int .i64 (y.1.2 : Int), .map (some (Z + 1)), .map (some (Z + 1 + 1 + 1)), .func (.func 174) #[] #[.pointer (some ⟨Z + 1 + 1, 0, none⟩)], .agg #[.int .i64 2, .slice A 3 cap], .func (.func 193) #[] #[.pointer (some ⟨Z + 5, 0, none⟩)], undef, undef, undef, undef, undef, undef, .map (some (Z + 1)), .pointer (some ⟨N, 0, none⟩), .tuple #[.bool false], .bool false, u31, u32, u33, u34, u35, u36, u37, u38, u39, u40, u41, u42, u43, u44, u45, u46, u47, u48, u49, u50, .bool true, .bool false, .bool false, .string k, .bool false, .bool false, u57, u58, u59, u60, .map (some (Z + 1 + 1 + 1)), .string k, .map (some (Z + 1)), .string k, .string wv, .agg #[.int .i64 2, .slice A 3 cap], .string k, .func (.func 195) #[] #[.pointer (some ⟨M + 1, 0, none⟩), .pointer (some ⟨M + 1 + 1, 0, none⟩)], .string ⟨y.1.1.toArray⟩, .int .i64 (y.1.2 : Int), undef, undef, undef, undef, undef, undef, undef, undef, undef, undef, undef], defers := [] })
      ?hax2 ?assign2 ?body2 ?done2 ?stop2
     case k2 =>
      have h1 : KS (S3 Z M) Wn W' := (KS.of_below hW (fun k hk => Nat.lt_of_not_le fun h => hs3' k h hk)).trans hK
      refine ⟨HRow.out _ (hNF.ks.trans (h1.mono fun k hk => .inl (hrb k hk))), ?_, ?_⟩
      ·exact h1.cell (p := ⟨M + 1, 1, none⟩) (by rw [cell_of_row Wn _ _ _ _ _ hNF.c0]; rfl) (.inr (.inr (.inl rfl)))
      ·exact h1.cell (p := ⟨M + 1 + 1, 0, none⟩) (by rw [cell_of_row Wn _ _ _ _ _ hNF.c1]; rfl) (.inr (.inr (.inr rfl)))
     case own2 =>
      exact hS.kept hg (fun e => by have := (hr _ e.symm).1; have := hNF.size; have := hNF.base; omega)
     case hax2 =>
      intro y a' s X Y row hs hg hrow
      exact hs
     case assign2 =>
      rintro l pre y W K hI hK
      simp only [encN] at hK ⊢
      gi_wp2
      exact hK _ _ (KeepsFrom.refl _ _) (KS.refl _ _) hI rfl
     case body2 =>
      rintro l pre y a' W _ _ ⟨hm, hmk, hks⟩ rfl hlen
      have hca := hks.cell hcaN (.inl ⟨by show Z + 1 + 1 + 1 + 1 < _; omega, by show Z + 1 + 1 + 1 + 1 ≠ _; omega⟩)
      have hcb := hks.cell hcbN (.inl ⟨by show Z + 1 + 1 < _; omega, by show Z + 1 + 1 ≠ _; omega⟩)
      have hwc := hks.cell hNF.wc (.inr (.inl rfl))
      obtain ⟨hy1, hy2⟩ := HStep.out.2.2.1 _ y.2
      have hpl : pre.length ≤ 2 := by have := HStep.out.2.1; omega
      have HAdd := hide (fun W' hm' hcb' => msAdd_any (ofRaw y.1.1) (wv ++ sfx y.1.1 y.1.2) (by rw [ofRaw_size]; omega) (Z + 1) (Z + 1 + 1) (2 * s + 1 + pre.length) (addN (fS s) wv (pre.map Subtype.val)) W' hm' (by omega) hcb' (by omega))
      unfold msFn at hca
      have HI2 := hide (fun W' => I3.add (s := s) (wv := wv) (W := W) (W' := W') (pre := pre) (y := y) hNF.base hNF.size hmk hks)
      have HMm := hide hm
      clear hks hmk hm
      obtain ⟨z, hz⟩ : ∃ z, y.1.1.length - y.1.2 = z := ⟨_, rfl⟩
      have hsl : IntKind.i64.wrap ((y.1.1.length : Int) - (y.1.2 : Int)) = (z : Int) := by rw [IntWalk.i64_in _ (by omega)]; omega
      have hz0 : (0 : Int) ≤ (z : Int) := by omega
      have hz1 : (z : Int) ≤ (y.1.1.length : Int) := by omega
      have hwz := HStep.out.2.2.2
      have hmD : MapS W.drew (Z + 1) (2 * s + 1 + pre.length) (addN (fS s) wv (pre.map Subtype.val)) := HMm.out
      have HAd := hide (HAdd.out W.drew hmD hcb)
      unfold sfx ofRaw at HAd HI2
      rw [hz] at HAd HI2
      clear HAdd HMm hmD
      have hq : ¬ 9223372036854775807 < wv.size + (y.1.1.length - z) := by omega
      have hmo : Tryz.prog.follows .mixedOrders = true := by kernel_rfl
      gi_wp2
      refine region_in_round (S := fun W' => W'.cell? ⟨Z + 1 + 1 + 1 + 1, 0, none⟩ = some (.func (.func 174) #[] #[.pointer (some ⟨Z + 1 + 1, 0, none⟩)]) ∧ W'.cell? ⟨M, 0, none⟩ = some (.string wv)) (by kernel_rfl) (by kernel_rfl) ⟨hca, hwc⟩ (fun hHeld => ?_)
      refine wpAnyH_take (i := 0) (oi := _) (v := ?v0) rfl (by kernel_rfl) (by kernel_rfl) (by kernel_rfl) (fun _ _ _ h => h) (Or.inl ⟨by rfl, ?hy0⟩) (by assumption) ?rest0
      case hy0 => (intro w hSw; (try dsimp only at hSw); go_simp; (try with_reducible rfl))
      (try simp only [List.getElem_toArray, List.getElem_cons_zero, Act.put, List.setIfInBounds_toArray, List.set_cons_zero, List.set_cons_succ])
      refine wpAnyH_take (i := 1) (oi := _) (v := ?v1) rfl (by kernel_rfl) (by kernel_rfl) (by kernel_rfl) (fun _ _ _ h => h) (Or.inl ⟨by rfl, ?hy1⟩) (by assumption) ?rest1
      case hy1 => (intro w hSw; (try dsimp only at hSw); go_simp; (try with_reducible rfl))
      (try simp only [List.getElem_toArray, List.getElem_cons_zero, List.getElem_cons_succ, Act.put, List.setIfInBounds_toArray, List.set_cons_zero, List.set_cons_succ])
      refine wpAnyH_take (i := 2) (oi := _) (v := ?v2) rfl (by kernel_rfl) (by kernel_rfl) (by kernel_rfl) (fun _ _ _ h => h) (Or.inl ⟨by rfl, ?hy2⟩) (by assumption) ?rest2
      case hy2 => (intro w hSw; (try dsimp only at hSw); go_simp; (try with_reducible rfl))
      (try simp only [List.getElem_toArray, List.getElem_cons_zero, List.getElem_cons_succ, Act.put, List.setIfInBounds_toArray, List.set_cons_zero, List.set_cons_succ])
      refine wpAnyH_take (i := 3) (oi := _) (v := ?v3) rfl (by kernel_rfl) (by kernel_rfl) (by kernel_rfl) (fun _ _ _ h => h) (Or.inl ⟨by rfl, ?hy3⟩) (by assumption) ?rest3
      case hy3 => (intro w hSw; (try dsimp only at hSw); go_simp; (try with_reducible rfl))
      (try simp only [List.getElem_toArray, List.getElem_cons_zero, List.getElem_cons_succ, Act.put, List.setIfInBounds_toArray, List.set_cons_zero, List.set_cons_succ])
      refine wpAnyH_take (i := 4) (oi := _) (v := ?v4) rfl (by kernel_rfl) (by kernel_rfl) (by kernel_rfl) (fun _ _ _ h => h) (Or.inl ⟨by rfl, ?hy4⟩) (by assumption) ?rest4
      case hy4 => (intro w hSw; (try dsimp only at hSw); go_simp; (try with_reducible rfl))
      (try simp only [List.getElem_toArray, List.getElem_cons_zero, List.getElem_cons_succ, Act.put, List.setIfInBounds_toArray, List.set_cons_zero, List.set_cons_succ])
      refine wpAnyH_take (i := 5) (oi := _) (v := ?v5) rfl (by kernel_rfl) (by kernel_rfl) (by kernel_rfl) (fun _ _ _ h => h) (Or.inl ⟨by rfl, ?hy5⟩) (by assumption) ?rest5
      case hy5 => (intro w hSw; (try dsimp only at hSw); go_simp; (try with_reducible rfl))
      (try simp only [List.getElem_toArray, List.getElem_cons_zero, List.getElem_cons_succ, Act.put, List.setIfInBounds_toArray, List.set_cons_zero, List.set_cons_succ])
      refine wpAnyH_take (i := 6) (oi := _) (v := ?v6) rfl (by kernel_rfl) (by kernel_rfl) (by kernel_rfl) (fun _ _ _ h => h) (Or.inl ⟨by rfl, ?hy6⟩) (by assumption) ?rest6
      case hy6 => (intro w hSw; (try dsimp only at hSw); go_simp; (try with_reducible rfl))
      (try simp only [List.getElem_toArray, List.getElem_cons_zero, List.getElem_cons_succ, Act.put, List.setIfInBounds_toArray, List.set_cons_zero, List.set_cons_succ])
      refine wpAnyH_take (i := 7) (oi := _) (v := ?v7) rfl (by kernel_rfl) (by kernel_rfl) (by kernel_rfl) (fun _ _ _ h => h) (Or.inl ⟨by rfl, ?hy7⟩) (by assumption) ?rest7
      case hy7 => (intro w hSw; (try dsimp only at hSw); go_simp; (try with_reducible rfl))
      (try simp only [List.getElem_toArray, List.getElem_cons_zero, List.getElem_cons_succ, Act.put, List.setIfInBounds_toArray, List.set_cons_zero, List.set_cons_succ])
      refine wpAnyH_take (i := 8) (oi := _) (v := ?v8) rfl (by kernel_rfl) (by kernel_rfl) (by kernel_rfl) (fun _ _ _ h => h) (Or.inl ⟨by rfl, ?hy8⟩) (by assumption) ?rest8
      case hy8 => (intro w hSw; (try dsimp only at hSw); go_simp; (try with_reducible rfl))
      (try simp only [List.getElem_toArray, List.getElem_cons_zero, List.getElem_cons_succ, Act.put, List.setIfInBounds_toArray, List.set_cons_zero, List.set_cons_succ])
      refine wpAnyH_take (i := 9) (oi := _) (v := ?v9) rfl (by kernel_rfl) (by kernel_rfl) (by kernel_rfl) (fun _ _ _ h => h) (Or.inl ⟨by rfl, ?hy9⟩) (by assumption) ?rest9
      case hy9 => (intro w hSw; (try dsimp only at hSw); go_simp; (try with_reducible rfl))
      (try simp only [List.getElem_toArray, List.getElem_cons_zero, List.getElem_cons_succ, Act.put, List.setIfInBounds_toArray, List.set_cons_zero, List.set_cons_succ])
      refine wpAnyH_ready (rs := [10]) (by kernel_rfl) (by simp) ?_
      refine AllReadyH.cons (o := _) rfl (fun K hK => ?_) AllReadyH.nil
      go_simp
      (with_reducible refine HAd.out.mono ?_)
      rintro e w' ⟨rfl, ha, hg⟩
      have hS9 := hide (And.intro (hg.cell (show W.drew.cell? ⟨Z + 1 + 1 + 1 + 1, 0, none⟩ = _ from hca) (by simp <;> omega)) (hg.cell (show W.drew.cell? ⟨M, 0, none⟩ = _ from hwc) (by simp <;> omega)))
      have HR2 := hide (HI2.out w' ha (show W.grownBy w' _ from ⟨hg.os, hg.tape, hg.output, hg.size, hg.block⟩))
      clear ha hg
      refine hK.out _ _ ?_ (fun hHeld => ?_)
      ·exact hS9.out
      clear hK K
      (try simp only [List.getElem_toArray, List.getElem_cons_zero, List.getElem_cons_succ, Act.put, List.setIfInBounds_toArray, List.set_cons_zero, List.set_cons_succ])
      refine wpAnyH_done (by kernel_rfl) ?_ _
      refine OnlyN.mk ?_
      exact HR2.out
     case done2 =>
      rintro D2 ys2 W2 hD2 hys2 ⟨hm2, hM2, hks2⟩ hK2
      rw [hys2, HStep.out.1] at hm2
      have hyl : ys2.length ≤ 2 := by rw [← List.length_map (f := Subtype.val), hys2]; exact HStep.out.2.1
      have hI2 : InvM Z W6 (s + 1) (mark D2 :: ds) W2 := ⟨hm2.mono (by omega), by
       obtain ⟨Dd, h1, h2⟩ := hNF.dn
       refine ⟨Dd, ?_, h2⟩
       obtain ⟨es, clock, hb, F, hs, rfl⟩ := h1
       exact ⟨es, clock, (hks2.block _ (Array.getElem?_eq_some_iff.1 hb).1 (.inl ⟨by omega, by omega⟩)).trans hb, F, hs, rfl⟩,
       Marks.cons hNF.mrk hM2 (by have := hNF.size; have := hNF.base; omega) hD2 hK2, hNF.ks.trans (hks2.mono fun k hk => .inl (hrb k hk))⟩
      have HI2 := hide hI2
      clear hm2 hM2 hks2 hK2 hys2 hI2
      gi_wp2
      exact ⟨by omega, _, _, _, _, _, _, _, _, _, _, _, _, _, _, _, _, _, _, _, _, _, _, _, _, _, _, _, _, _, _, _, _, _, _, _, _, _, _, _, _, _, _, _, _, _, _, _, _, HI2.out, rfl⟩
     case stop2 =>
      rintro D c pre W _ _ h _
      exact h.elim
   ·intro x w1 cnt1 hxm hsome hlk hrg1 hltc hg1 hs1 hen
    have hI1 := HI.out.grown hg1 (fun r e => by cases e; exact ⟨hZN, ranges_iter hrg⟩)
    have hcb1 : w1.cell? ⟨Z + 1 + 1, 0, none⟩ = some (.map (some (Z + 1))) := hI1.ks.cell HW.out.cb ⟨by show Z + 1 + 1 < _; omega, by show Z + 1 + 1 ≠ _; omega, by show Z + 1 + 1 ≠ _; omega⟩
    have hlook := hI1.dn.look x hxm
    clear hg1 hlk hxm HI hrg
    by_cases hx : x.data.toList ∈ dS s
    ·rw [decide_eq_true hx] at hlook
     have HP2 := hide (HP.out.skip (x := x.data.toList) (fun _ => hx))
     have HI1 := hide hI1
     clear hI1 HP hx hcb1
     go_wp2
     go_roundw
     case rel => exact ⟨_, cnt1, next, found, rfl, rfl, hrg1, HP2, HI1⟩
     case measure => rw [hrg1.left_eq, hle0]; exact hltc
    ·rw [decide_eq_false hx] at hlook
     have HPT := hide (PickP.take (left := fun z => left z && !z.sameKey (.string x.data.toList)) hsome hx)
     cases found with
     | false =>
      have HI1 := hide hI1
      clear hI1 HP hx hcb1
      go_wp2
      go_roundw
      case rel => exact ⟨_, cnt1, x, true, rfl, rfl, hrg1, HPT, HI1⟩
      case measure => rw [hrg1.left_eq, hle0]; exact hltc
     | true =>
      have hgt := hI1.best.get next (by have := fS_len hs (HP.out.2 rfl).1; (have e : next.size = next.data.toList.length := by simp); unfold maxLen; omega)
      have HOrd := hide (fun W => dcorder_any (getS (fS s) x.data.toList) (getS (fS s) next.data.toList) W)
      have HP2 := hide (HP.out.skip (x := x.data.toList) (fun h => by cases h))
      have HI1 := hide hI1
      have HRG := hide hrg1
      clear hI1 HP hx
      obtain ⟨c, hc⟩ : ∃ c, cmpW (getS (fS s) x.data.toList).data.toList (getS (fS s) next.data.toList).data.toList = c := ⟨_, rfl⟩
      obtain ⟨g1, hg1⟩ : ∃ g, getS (fS s) x.data.toList = g := ⟨_, rfl⟩
      obtain ⟨g2, hg2⟩ : ∃ g, getS (fS s) next.data.toList = g := ⟨_, rfl⟩
      rw [hc, hg1, hg2] at HOrd
      rw [hg2] at hgt
      rw [hg1] at hen
      clear hc hg1 hg2
      go_wp2_with fail
      (with_reducible refine (HOrd.out _).mono ?_)
      rintro e w2 ⟨rfl, rfl⟩
      have HI2 := hide (HI1.out.grown (World.grownBy_alloc w1 (Obj.cells #[.int .i64 (Lib.compareInt g1.size g2.size), .int .i64 (Lib.compareBytes g1.data.toList g2.data.toList)] 3) none) (fun r e => by cases e))
      have hrg2 := HRG.out.alloc (Obj.cells #[.int .i64 (Lib.compareInt g1.size g2.size), .int .i64 (Lib.compareBytes g1.data.toList g2.data.toList)] 3)
      clear HI1 HRG hrg1 HOrd hgt hlook hcb1 hen
      by_cases h3 : c < 0
      ·go_wp2
       go_roundw
       case rel => exact ⟨_, cnt1, x, true, rfl, rfl, hrg2, HPT, HI2⟩
       case measure => rw [hrg2.left_eq, hle0]; exact hltc
      ·go_wp2
       go_roundw
       case rel => exact ⟨_, cnt1, next, true, rfl, rfl, hrg2, HP2, HI2⟩
       case measure => rw [hrg2.left_eq, hle0]; exact hltc
 case stop =>
  rintro D c pre W _ _ h _
  exact h.elim
end
end Go.Proofs.YtbnpjoiojhnimaaGreatDoor
namespace Go.Proofs.YtbnpjoiojhnimaaGreatDoor
open Go.RowKit Go.Shelf
section
attribute [local go_sem] Oper.semAt_some
def rdA : Nat → List (List Int)
 | 0 => [[0, 2], [1, 0]]
 | 1 => [[2]]
 | 2 => [[0]]
 | _ => [[]]
def okA (i : Nat) : Bool := decide (i ≤ 3)
theorem rdS_A : RdG xsA wA okA rdA := by
 refine ⟨rfl, ?_, rfl, ?_, by decide⟩
 ·intro i hi
  have hi : i < 3 := hi
  have hk : i = 0 ∨ i = 1 ∨ i = 2 := by omega
  rcases hk with rfl | rfl | rfl <;> rfl
 ·intro i hi
  have hi : i < 3 := hi
  have hk : i = 0 ∨ i = 1 ∨ i = 2 := by omega
  rcases hk with rfl | rfl | rfl <;> rfl
theorem decV_A : decV xsA = false := by decide
theorem cdk_A : cdk 2 xsA = 0 := by decide
theorem ambSize : (Tryz.prog.info? 96).map (·.size) = some 3 := by kernel_rfl
theorem results_cell_tmp2 {fn : Func} {p u v : Tmp} {ty : TypeId} (h : fn.results = #[.cell p ty, .tmp u, .tmp v]) (tmps : Array Value) (P : Program) (w : World) :
  (results fn tmps).run P w = ((asAddr (tmps.getD p undef)).run P w).andThen fun a w₁ => ((loadVar ty a).run P w₁).andThen fun x w₂ => .ok (.tuple #[x, tmps.getD u undef, tmps.getD v undef]) w₂ := by
 simp only [results, h]
 simp [Sem.run_bind, Result.andThen]
theorem ret_amb {fn : Func} {p u v : Tmp} (h : fn.results = #[.cell p 96, .tmp u, .tmp v]) (tmps : Array Value) (w : World) (g : Nat) (cs : Array Value) (hp : tmps.getD p undef = .pointer (some ⟨g, 0, none⟩)) (hg : w.heap[g]? = some (.cells cs 96 (0, 0))) (hcs : cs.size = 3) :
  (results fn tmps).run Tryz.prog w = .ok (.tuple #[.agg cs, tmps.getD u undef, tmps.getD v undef]) w := by
 rw [results_cell_tmp2 h, hp]
 simp [asAddr, Result.andThen, run_loadVar_row w g 96 96 cs (0, 0) _ hg Tryz.underlying96 rfl (by rw [hcs]; exact ambSize)]
theorem row_setO {w : World} {R : Nat} {cs : Array Value} {t : TypeId} {fr : Nat × Nat} (h : w.heap[R]? = some (.cells cs t fr)) (j : Nat) (v : Value) : (w.setCell ⟨R, j, none⟩ v).heap[R]? = some (.cells (cs.setIfInBounds j v) t fr) := by
 simp [World.setCell, Array.getElem?_modify, h]
def slR (x : RdX) : Value := .slice (some ⟨x.2.1, 0, none⟩) x.1.length x.2.2
def firstV (pre : List RdX) : Value := match pre with | [] => .slice none 0 0 | x :: _ => slR x
structure AmI (Z Na : Nat) (Wl : World) (pre : List RdX) (W : World) : Prop where
 n : W.heap[Na + 1]? = some (.cells #[.int .i64 (pre.length : Int)] 3 (0, 0))
 a : W.heap[Na]? = some (.cells #[.string wA, firstV pre, .slice none 0 0] 96 (0, 0))
 r : ∀ x ∈ pre, PreR (Na + 4) x W
 l : pre.length ≤ 1
 k : KS (fun k => k < Na) Wl W
structure AmX (Z Na : Nat) (Wl : World) (x y : RdX) (W : World) : Prop where
 a : W.heap[Na]? = some (.cells #[.string wA, slR x, slR y] 96 (0, 0))
 x : PreR (Na + 4) x W
 y : PreR (Na + 4) y W
 k : KS (fun k => k < Na) Wl W
def AmJ (Z Na : Nat) (Wl : World) (c : Code) (pre : List RdX) (W : World) : Prop := c = .exit 0 ∧ ∃ x y, pre = [x, y] ∧ AmX Z Na Wl x y W
theorem PreR.grown {B : Nat} {x : RdX} {W W' : World} {row : Option Nat} (h : PreR B x W) (hg : W.grownBy W' row) (hr : some x.2.1 ≠ row) : PreR B x W' := World.ownsRow.kept h hg (.inr hr)
theorem PreR.own {x : RdX} {pre : List RdX} {W W' : World} {row : Option Nat} {B Bx : Nat} (h : PreR Bx x W) (hx : x ∈ pre) (hg : W.grownBy W' row) (hr : ∀ r, row = some r → B ≤ r ∧ ∃ o : Obj, W.heap[r]? = some o ∧ (o.isCells = false ∨ ∀ x ∈ pre, blkR x ≠ r)) : PreR Bx x W' := by
 refine h.grown hg fun e => ?_
 obtain ⟨_, o, ho, hc⟩ := hr _ e.symm
 rcases hc with hc | hc
 ·obtain ⟨_, cs, hcs⟩ := Ints.own_ge h rfl
  rw [hcs] at ho; cases ho; cases hc
 ·exact hc x hx rfl
theorem amI_own (Z Na : Nat) (Wl : World) (hz : Wl.heap.size = Na + 4) : OwnB Wl.heap.size blkR (AmI Z Na Wl) := by
 intro pre W W' row h hg hr
 have hne : ∀ k, k < Na + 4 → some k ≠ row := fun k hk e => by have := (hr k e.symm).1; omega
 exact ⟨(hg.block _ (Array.getElem?_eq_some_iff.1 h.n).1 (hne _ (by omega))).trans h.n, (hg.block _ (Array.getElem?_eq_some_iff.1 h.a).1 (hne _ (by omega))).trans h.a, fun x hx => (h.r x hx).own hx hg hr, h.l, h.k.grown hg fun k e hk => by have := (hr k e).1; omega⟩
theorem amX_own (Z Na : Nat) (Wl : World) (hz : Wl.heap.size = Na + 4) (c : Code) : OwnB Wl.heap.size blkR (AmJ Z Na Wl c) := by
 intro pre W W' row ⟨hc, x, y, he, h⟩ hg hr
 have hne : ∀ k, k < Na + 4 → some k ≠ row := fun k hk e => by have := (hr k e.symm).1; omega
 exact ⟨hc, x, y, he, (hg.block _ (Array.getElem?_eq_some_iff.1 h.a).1 (hne _ (by omega))).trans h.a, h.x.own (by rw [he]; simp) hg hr, h.y.own (by rw [he]; simp) hg hr, h.k.grown hg fun k e hk => by have := (hr k e).1; omega⟩
def AmPost (g1 c1 g2 c2 : Nat) (w w' : World) : Prop := PreR w.heap.size ([0, 2], g1, c1) w' ∧ PreR w.heap.size ([1, 0], g2, c2) w' ∧ Below w.heap.size w w'
set_option maxRecDepth 100000 in
set_option maxHeartbeats 4000000 in
theorem ambiguous_A (A : Option Addr) (cap : Nat) (w : World) (hR : RowT w A xsA) (hc : 3 ≤ cap) (hcm : cap ≤ 9223372036854775807) :
  Calls Tryz.prog 64 #[.agg #[.int .i64 2, .slice A 3 cap]] w fun e w' => ∃ g1 c1 g2 c2, e = .returned (.tuple #[.agg #[.string wA, .slice (some ⟨g1, 0, none⟩) 2 c1, .slice (some ⟨g2, 0, none⟩) 2 c2], .bool true, .int .i64 0]) ∧ AmPost g1 c1 g2 c2 w w' := by
 refine (callsIn_wide (n := 3)).1 ?_
 obtain ⟨Z, hZ⟩ : ∃ Z, w.heap.size = Z := ⟨_, rfl⟩
 obtain ⟨W0, hW0⟩ : ∃ W0, (w.alloc (.cells #[.int .i64 2, .slice A 3 cap] 27)).alloc (.cells #[.string ⟨#[]⟩, .slice none 0 0, .slice none 0 0] 96) = W0 := ⟨_, rfl⟩
 have hB0 : Below Z w W0 := by rw [← hW0]; exact (((Below.refl _ w).alloc (by omega) _).alloc (by simp; omega) _)
 have hz0 : W0.heap.size = Z + 2 := by rw [← hW0]; simp [hZ]
 have hc0 : W0.heap[Z]? = some (.cells #[.int .i64 2, .slice A 3 cap] 27 (0, 0)) := by
  rw [← hW0]; exact (Below.heap_alloc _ _ _ (by simp; omega)).trans (heap_at _ _ _ hZ.symm)
 have hr0 : W0.heap[Z + 1]? = some (.cells #[.string ⟨#[]⟩, .slice none 0 0, .slice none 0 0] 96 (0, 0)) := by rw [← hW0]; exact heap_at _ _ _ (by simp [hZ])
 have hRW : ∀ W, Below Z w W → RowT W A xsA := fun W hW => hR.below (by rw [hZ]; exact hW)
 have HC := hide (callsIn_wide (n := 2).2 (ccheck_any 2 xsA A cap W0 (hRW _ hB0) hc hcm))
 rw [cdk_A, show xsA.length = 3 from rfl] at HC
 have HD := hide (fun W hW => callsIn_wide (n := 2).2 (decodable_any 2 A cap xsA W hW (by decide) (by decide)))
 rw [decV_A, show xsA.length = 3 from rfl] at HD
 have HM := hide (fun W hW => callsIn_wide (n := 2).2 (message_A A cap W hW))
 have HRd := hide (fun W => callsIn_wide (n := 2).2 (readings_in 2 A 3 cap wA W))
 have hRz : Tryz.prog.info? 96 = Tryz.prog.info? 96 := rfl
 refine callsIn_of_wp_marks Tryz.func64 rfl trivial ?_ rfl
 simp only [Tryz.ntmps64, List.size_toArray, List.length_cons, List.length_nil, Nat.reduceAdd, Nat.reduceSub, Array.replicate_succ, Array.replicate_zero, List.push_toArray, List.append_toArray, List.nil_append, List.cons_append]
 have hcAt := hide (show ∀ W, Below (Z + 2) W0 W → (W.cell? ⟨Z, 0, none⟩ = some (.int .i64 2) ∧ W.cell? ⟨Z, 1, none⟩ = some (.slice A 3 cap)) ∧ RowT W A xsA ∧ W.heap[Z + 1]? = some (.cells #[.string ⟨#[]⟩, .slice none 0 0, .slice none 0 0] 96 (0, 0)) ∧ Below Z w W from fun W hW => by
  have h1 := (hW.block Z (by omega)).trans hc0
  exact ⟨⟨by rw [cell_of_row W _ _ _ _ _ h1]; rfl, by rw [cell_of_row W _ _ _ _ _ h1]; rfl⟩, hRW W (hB0.trans (hW.mono (by omega))), (hW.block _ (by omega)).trans hr0, hB0.trans (hW.mono (by omega))⟩)
 obtain ⟨⟨k00, k01⟩, _⟩ := hcAt.out W0 (Below.refl _ _)
 clear hc0 hr0 hB0 hRz hRW
 gi_wp2_with fail
 refine ⟨trivial, ?_⟩
 (with_reducible refine HC.out.mono ?_)
 rintro e W1 ⟨rfl, hB1⟩
 obtain ⟨⟨k10, k11⟩, hR1, _⟩ := hcAt.out W1 (hB1.mono (by omega))
 have hB1' := hide (hB1.mono (show Z + 2 ≤ W0.heap.size by omega))
 have hz1 := hB1.size
 have HD1 := hide (HD.out W1 hR1)
 clear HC HD hB1 hR1 k00 k01 hW0
 gi_wp2_with fail
 refine ⟨trivial, ?_⟩
 (with_reducible refine HD1.out.mono ?_)
 rintro e W2 ⟨rfl, hB2⟩
 have hB2' := hide (hB1'.out.trans (hB2.mono (show Z + 2 ≤ W1.heap.size by omega)))
 obtain ⟨⟨k20, k21⟩, hR2, _⟩ := hcAt.out W2 hB2'.out
 have hz2 := hB2.size
 have HM2 := hide (HM.out W2 hR2)
 clear HD1 HM hB2 hR2 k10 k11 hB1'
 gi_wp2_with fail
 refine ⟨trivial, ?_⟩
 (with_reducible refine HM2.out.mono ?_)
 rintro e W3 ⟨rfl, hB3⟩
 have hB3' := hide (hB2'.out.trans (hB3.mono (show Z + 2 ≤ W2.heap.size by omega)))
 obtain ⟨⟨k30, k31⟩, hR3, hres3, hBw3⟩ := hcAt.out W3 hB3'.out
 have hz3 := hB3.size
 obtain ⟨Na, hNa⟩ : ∃ Na, W3.heap.size = Na := ⟨_, rfl⟩
 obtain ⟨Wl, hWl⟩ : ∃ Wl, (((W3.alloc (.cells #[.string wA, .slice none 0 0, .slice none 0 0] 96)).alloc (.cells #[.int .i64 0] 3)).alloc (.cells #[.int .i64 2, .slice A 3 cap] 27)).alloc (.cells #[.string wA] 9) = Wl := ⟨_, rfl⟩
 have kz0 : ((W3.alloc (.cells #[.string wA, .slice none 0 0, .slice none 0 0] 96)).alloc (.cells #[.int .i64 0] 3)).cell? ⟨Z, 0, none⟩ = some (.int .i64 2) := (World.cell?_alloc_lt _ _ _ (by show Z < _; simp; omega)).trans ((World.cell?_alloc_lt _ _ _ (by show Z < _; omega)).trans k30)
 have kz1 : ((W3.alloc (.cells #[.string wA, .slice none 0 0, .slice none 0 0] 96)).alloc (.cells #[.int .i64 0] 3)).cell? ⟨Z, 1, none⟩ = some (.slice A 3 cap) := (World.cell?_alloc_lt _ _ _ (by show Z < _; simp; omega)).trans ((World.cell?_alloc_lt _ _ _ (by show Z < _; omega)).trans k31)
 have HR3 := hide hR3
 clear HM2 hB3 hR3 k20 k21 k30 k31 hB2'
 gi_wp2_with fail
 refine ⟨trivial, ?_⟩
 (with_reducible refine (HRd.out _).mono ?_)
 rintro e w7 ⟨rfl, rfl⟩
 rw [show ((W3.alloc (.cells #[.string wA, .slice none 0 0, .slice none 0 0] 96)).alloc (.cells #[.int .i64 0] 3)).heap.size = Na + 2 by simp [hNa], hWl]
 have lift : ∀ (W : World) (o : Obj) (k : Nat) (x : Obj), W.heap[k]? = some x → (W.alloc o).heap[k]? = some x := fun W o k x h => (Below.heap_alloc W o k (Array.getElem?_eq_some_iff.1 h).1).trans h
 have hzl : Wl.heap.size = Na + 4 := by rw [← hWl]; simp [hNa]
 have hla : Wl.heap[Na]? = some (.cells #[.string wA, .slice none 0 0, .slice none 0 0] 96 (0, 0)) := by rw [← hWl]; exact lift _ _ _ _ (lift _ _ _ _ (lift _ _ _ _ (heap_at _ _ _ hNa.symm)))
 have hln : Wl.heap[Na + 1]? = some (.cells #[.int .i64 0] 3 (0, 0)) := by rw [← hWl]; exact lift _ _ _ _ (lift _ _ _ _ (heap_at _ _ _ (by simp [hNa])))
 have hlc : Wl.heap[Na + 2]? = some (.cells #[.int .i64 2, .slice A 3 cap] 27 (0, 0)) := by rw [← hWl]; exact lift _ _ _ _ (heap_at _ _ _ (by simp [hNa]))
 have hlw : Wl.heap[Na + 3]? = some (.cells #[.string wA] 9 (0, 0)) := by rw [← hWl]; exact heap_at _ _ _ (by simp [hNa])
 have hgl : W3.grownBy Wl none := by rw [← hWl]; exact (((World.grownBy_alloc _ _ none).trans (World.grownBy_alloc _ _ none)).trans (World.grownBy_alloc _ _ none)).trans (World.grownBy_alloc _ _ none)
 have hRl : RowT Wl A xsA := HR3.out.kept3 hgl
 have hAl : ∀ a, A = some a → a.block < Na := fun a e => by
  obtain ⟨b, o, e2, hb, _⟩ := HR3.out (by decide)
  rw [e2] at e; cases e
  show b < Na
  rw [← hNa]; exact hb
 have hBl : Below Na W3 Wl := ⟨hgl.os, hgl.tape, hgl.output, hgl.size, fun k hk => hgl.block k (by omega) (by simp)⟩
 have hrl := (hgl.block (Z + 1) (by omega) (by simp)).trans hres3
 have hzNa : Z + 2 ≤ Na := by omega
 clear lift HRd hWl hNa kz0 kz1 hres3 HR3 hgl
 gi_wp2
 refine wpIn_rangeFunc_pre (α := RdX) rfl (by omega) (gf := 176) (lb := #[.pointer (some ⟨Na + 3, 0, none⟩), .pointer (some ⟨Na + 2, 0, none⟩)]) rfl trivial (enters_of Tryz.func176 (by kernel_rfl) rfl)
  (encs := encR) (fun _ => rfl) (Kp := KC (fun k => Na + 2 ≤ k ∨ ∃ a, A = some a ∧ k = a.block)) (Pre := PreR (Na + 4)) (blk := blkR) (S := fun ys => ys.map Prod.fst = rdA 0) (Sp := fun pre => pre.map Prod.fst <+: rdA 0)
  (fun l J Jx W hW hJ hJx hY h0 => readingsf_in 2 l (Na + 3) (Na + 2) cap wA A xsA okA rdA rdS_A (by decide) (by decide) (by decide) (by decide) rfl _ J Jx W (Na + 4) (by have := hW.size; omega) hJ
   (fun k hk => .inl (by have := hW.size; omega)) (.inl (by omega)) (.inl (Nat.le_refl _)) (fun a ha => .inr ⟨a, ha, rfl⟩) (by omega) hY
   (by rw [hW.cell (p := ⟨Na + 3, 0, none⟩) (by show Na + 3 < _; omega)]; exact cell_of_one hlw)
   (by rw [hW.cell (p := ⟨Na + 2, 1, none⟩) (by show Na + 2 < _; omega), cell_of_row Wl _ _ _ _ _ hlc]; rfl)
   (hRl.below hW) h0)
  (fun h k => h.trans k) kc_b (AmI Z Na Wl) (AmJ Z Na Wl) (amI_own Z Na Wl hzl) (fun c => amX_own Z Na Wl hzl c)
  ⟨hln, hla, (fun x hx => nomatch hx), Nat.zero_le _, KS.refl _ _⟩
  (fun pre x a' W => AmI Z Na Wl pre W ∧ PreR (Na + 4) x W ∧ a' = { tmps := #[.agg #[.int .i64 2, .slice A 3 cap], .pointer (some ⟨Z, 0, none⟩), .pointer (some ⟨Z + 1, 0, none⟩), .bool false, .int .i64 0, .string wA, .bool true, .pointer (some ⟨Na, 0, none⟩), .pointer (some ⟨Na + 1, 0, none⟩), slR x, .agg #[.int .i64 2, .slice A 3 cap], .int .i64 0, .bool false, undef, .agg #[.int .i64 2, .slice A 3 cap], .bool false, undef, .tuple #[.string wA, .bool true], .agg #[.int .i64 2, .slice A 3 cap], .tuple #[.string wA, .bool true], .string wA, .bool true, .bool true, .bool false, undef, .string wA, .agg #[.string wA, .slice none 0 0, .slice none 0 0], .agg #[.int .i64 2, .slice A 3 cap], .string wA, .func (.func 176) #[] #[.pointer (some ⟨Na + 3, 0, none⟩), .pointer (some ⟨Na + 2, 0, none⟩)], slR x, undef, undef, undef, undef, undef, undef, undef, undef, undef], defers := [] })
  (fun pre x a' s X Y row hs hg hr => ⟨amI_own Z Na Wl hzl pre X Y row hs.1 hg (fun r e => ⟨(hr r e).1, by obtain ⟨o, h1, h2⟩ := (hr r e).2; exact ⟨o, h1, .inl h2⟩⟩), hs.2.1.own (pre := [x]) (by simp) hg (fun r e => ⟨(hr r e).1, by obtain ⟨o, h1, h2⟩ := (hr r e).2; exact ⟨o, h1, .inl h2⟩⟩), hs.2.2⟩)
  ?assign ?body ?done ?stop
 case assign =>
  rintro l pre x W K hI hpre hK
  simp only [encR] at hK ⊢
  gi_wp2
  exact hK _ _ (KeepsFrom.refl _ _) (KC.refl _ _) ⟨hI, hpre, rfl⟩
 case body =>
  rintro l pre ⟨zs, g, cp⟩ a' W ⟨hI, hx, rfl⟩
  have hnf : W.frozen? ⟨Na + 1, 0, none⟩ = false := by simp [World.frozen?, show W.heap[Na + 1]? = _ from hI.n]
  have hac : ∀ j, W.frozen? ⟨Na, j, none⟩ = false := fun j => by simp [World.frozen?, show W.heap[Na]? = _ from hI.a]
  have hxl : Na + 4 ≤ g := (Ints.own_ge hx rfl).1
  dsimp only [slR]
  rcases pre with _ | ⟨y, _ | ⟨y2, ys⟩⟩
  ·have hnc : W.cell? ⟨Na + 1, 0, none⟩ = some (.int .i64 0) := cell_of_one hI.n
   have ha2 : (W.setCell ⟨Na + 1, 0, none⟩ (.int .i64 1)).cell? ⟨Na, 1, none⟩ = some (.slice none 0 0) := by
    rw [World.cell?_setCell_far _ _ _ _ (by simp), cell_of_row W _ _ _ _ _ hI.a]; rfl
   have hn2 : (W.setCell ⟨Na + 1, 0, none⟩ (.int .i64 1)).cell? ⟨Na + 1, 0, none⟩ = some (.int .i64 1) := World.cell?_setCell_same _ _ _ hnc
   have hf2 : (W.setCell ⟨Na + 1, 0, none⟩ (.int .i64 1)).frozen? ⟨Na, 1, none⟩ = false := by rw [World.frozen?_setCell]; exact hac 1
   have hg1 := grown_setO W (Na + 1) 0 (.int .i64 1)
   have hg2 := grown_setO (W.setCell ⟨Na + 1, 0, none⟩ (.int .i64 1)) Na 1 (.slice (some ⟨g, 0, none⟩) zs.length cp)
   have HPost := hide (show KeepsFrom Wl.heap.size W ((W.setCell ⟨Na + 1, 0, none⟩ (.int .i64 1)).setCell ⟨Na, 1, none⟩ (.slice (some ⟨g, 0, none⟩) zs.length cp)) ∧ KC (fun k => Na + 2 ≤ k ∨ ∃ a, A = some a ∧ k = a.block) W ((W.setCell ⟨Na + 1, 0, none⟩ (.int .i64 1)).setCell ⟨Na, 1, none⟩ (.slice (some ⟨g, 0, none⟩) zs.length cp)) ∧ AmI Z Na Wl ([] ++ [(zs, g, cp)]) ((W.setCell ⟨Na + 1, 0, none⟩ (.int .i64 1)).setCell ⟨Na, 1, none⟩ (.slice (some ⟨g, 0, none⟩) zs.length cp)) from by
    refine ⟨(KeepsFrom.of_grownBy hg1 (fun j e => by cases e; omega)).trans (KeepsFrom.of_grownBy hg2 (fun j e => by cases e; omega)), ⟨rfl, rfl, rfl, Nat.le_trans hg1.size hg2.size, fun k o hk _ hS => ?_⟩, ?_⟩
    ·have hk1 : k ≠ Na ∧ k ≠ Na + 1 := by
      rcases hS with hS | ⟨a, ha, rfl⟩
      ·omega
      ·have := hAl a ha; omega
     have hkl := (Array.getElem?_eq_some_iff.1 hk).1
     exact ((hg2.block k (Nat.lt_of_lt_of_le hkl hg1.size) (by simp; omega)).trans (hg1.block k hkl (by simp; omega))).trans hk
    ·refine ⟨?_, ?_, fun z hz => ?_, by simp, (hI.k.grown hg1 (fun k e h => by cases e; omega)).grown hg2 (fun k e h => by cases e; omega)⟩
     ·refine (hg2.block _ (by have := hg1.size; have := (Array.getElem?_eq_some_iff.1 hI.n).1; omega) (by simp)).trans ?_
      exact row_setO hI.n 0 (.int .i64 1)
     ·have h0 := (hg1.block Na (Array.getElem?_eq_some_iff.1 hI.a).1 (by simp)).trans hI.a
      exact row_setO h0 1 (.slice (some ⟨g, 0, none⟩) zs.length cp)
     ·obtain rfl : z = (zs, g, cp) := by simpa using hz
      exact (hx.grown hg1 (by simp; omega)).grown hg2 (by simp; omega))
   have hnz : IntKind.i64.wrap ((0 : Int) + 1) = 1 := rfl
   clear hg1 hg2 hI hx
   gi_wp2
   exact HPost.out
  ·have hnc : W.cell? ⟨Na + 1, 0, none⟩ = some (.int .i64 1) := cell_of_one hI.n
   have ha2 : (W.setCell ⟨Na + 1, 0, none⟩ (.int .i64 2)).cell? ⟨Na, 2, none⟩ = some (.slice none 0 0) := by
    rw [World.cell?_setCell_far _ _ _ _ (by simp), cell_of_row W _ _ _ _ _ hI.a]; rfl
   have hn2 : (W.setCell ⟨Na + 1, 0, none⟩ (.int .i64 2)).cell? ⟨Na + 1, 0, none⟩ = some (.int .i64 2) := World.cell?_setCell_same _ _ _ hnc
   have hf2 : (W.setCell ⟨Na + 1, 0, none⟩ (.int .i64 2)).frozen? ⟨Na, 2, none⟩ = false := by rw [World.frozen?_setCell]; exact hac 2
   have hg1 := grown_setO W (Na + 1) 0 (.int .i64 2)
   have hg2 := grown_setO (W.setCell ⟨Na + 1, 0, none⟩ (.int .i64 2)) Na 2 (.slice (some ⟨g, 0, none⟩) zs.length cp)
   have HPost := hide (show KeepsFrom Wl.heap.size W ((W.setCell ⟨Na + 1, 0, none⟩ (.int .i64 2)).setCell ⟨Na, 2, none⟩ (.slice (some ⟨g, 0, none⟩) zs.length cp)) ∧ AmJ Z Na Wl (.exit 0) ([y] ++ [(zs, g, cp)]) ((W.setCell ⟨Na + 1, 0, none⟩ (.int .i64 2)).setCell ⟨Na, 2, none⟩ (.slice (some ⟨g, 0, none⟩) zs.length cp)) from by
    have hy := hI.r y (by simp)
    have hyl : Na + 4 ≤ y.2.1 := (Ints.own_ge hy rfl).1
    refine ⟨(KeepsFrom.of_grownBy hg1 (fun j e => by cases e; omega)).trans (KeepsFrom.of_grownBy hg2 (fun j e => by cases e; omega)), rfl, y, (zs, g, cp), rfl, ?_, ?_, ?_, (hI.k.grown hg1 (fun k e h => by cases e; omega)).grown hg2 (fun k e h => by cases e; omega)⟩
    ·have h0 := (hg1.block Na (Array.getElem?_eq_some_iff.1 hI.a).1 (by simp)).trans hI.a
     exact row_setO h0 2 (.slice (some ⟨g, 0, none⟩) zs.length cp)
    ·exact (hy.grown hg1 (by simp; omega)).grown hg2 (by simp; omega)
    ·exact (hx.grown hg1 (by simp; omega)).grown hg2 (by simp; omega))
   have hnz : IntKind.i64.wrap ((1 : Int) + 1) = 2 := rfl
   clear hg1 hg2 hI hx
   gi_wp2
   exact HPost.out
  ·exact absurd hI.l (by simp)
 case done =>
  rintro D ys W hD hys hI hK
  have := hI.l
  rw [← List.length_map (f := Prod.fst), hys] at this
  exact absurd this (by decide)
 case stop =>
  rintro D c pre W hD hSp ⟨rfl, x, y, rfl, hX⟩ hK
  have hl2 := hSp.length_le
  obtain ⟨hx1, hy1⟩ : x.1 = [0, 2] ∧ y.1 = [1, 0] := by
   have := List.IsPrefix.eq_of_length hSp (by simp [rdA])
   simpa [rdA] using this
  obtain ⟨xz, xg, xc⟩ := x
  obtain ⟨yz, yg, yc⟩ := y
  simp only at hx1 hy1
  subst hx1 hy1
  have hxg : Na + 4 ≤ xg := (Ints.own_ge hX.x rfl).1
  have hyg : Na + 4 ≤ yg := (Ints.own_ge hX.y rfl).1
  have hrow := hX.a
  simp only [slR, List.length_cons, List.length_nil, Nat.zero_add, Nat.reduceAdd] at hrow
  have hres := (hX.k.block (Z + 1) (by omega) (by show Z + 1 < Na; omega)).trans hrl
  have hMk : Marks Na [mark D] W := Marks.one (by omega) hK
  have a0 : W.cell? ⟨Na, 0, none⟩ = some (.string wA) := by rw [cell_of_row W _ _ _ _ _ hrow]; rfl
  have a1 : W.cell? ⟨Na, 1, none⟩ = some (.slice (some ⟨xg, 0, none⟩) 2 xc) := by rw [cell_of_row W _ _ _ _ _ hrow]; rfl
  have a2 : W.cell? ⟨Na, 2, none⟩ = some (.slice (some ⟨yg, 0, none⟩) 2 yc) := by rw [cell_of_row W _ _ _ _ _ hrow]; rfl
  have r0 : W.cell? ⟨Z + 1, 0, none⟩ = some (.string ⟨#[]⟩) := by rw [cell_of_row W _ _ _ _ _ hres]; rfl
  have r1 : W.cell? ⟨Z + 1, 1, none⟩ = some (.slice none 0 0) := by rw [cell_of_row W _ _ _ _ _ hres]; rfl
  have r2 : W.cell? ⟨Z + 1, 2, none⟩ = some (.slice none 0 0) := by rw [cell_of_row W _ _ _ _ _ hres]; rfl
  have z0 : ∀ j, W.frozen? ⟨Z + 1, j, none⟩ = false := fun j => by simp [World.frozen?, show W.heap[Z + 1]? = _ from hres]
  obtain ⟨We, hWe⟩ : ∃ We, ((W.setCell ⟨Z + 1, 0, none⟩ (.string wA)).setCell ⟨Z + 1, 1, none⟩ (.slice (some ⟨xg, 0, none⟩) 2 xc)).setCell ⟨Z + 1, 2, none⟩ (.slice (some ⟨yg, 0, none⟩) 2 yc) = We := ⟨_, rfl⟩
  have hge : W.grownBy We (some (Z + 1)) := by rw [← hWe]; exact ((grown_setO _ _ _ _).trans (grown_setO _ _ _ _)).trans (grown_setO _ _ _ _)
  have hre : We.heap[Z + 1]? = some (.cells #[.string wA, .slice (some ⟨xg, 0, none⟩) 2 xc, .slice (some ⟨yg, 0, none⟩) 2 yc] 96 (0, 0)) := by
   rw [← hWe]; exact row_setO (row_setO (row_setO hres 0 _) 1 _) 2 _
  have HX := hide (hX.x.grown hge (by simp; omega))
  have HY := hide (hX.y.grown hge (by simp; omega))
  have HMk := hide (hMk.kept fun D hD hd => (hge.block D (Array.getElem?_eq_some_iff.1 hd).1 (by simp; omega)).trans hd)
  have HBe : Below Z w We := by
   have h1 : Below Na W3 W := hBl.trans (hX.k.below (fun k hk => hk) (by omega))
   exact hBw3.trans ((h1.mono (by omega)).trans ((Below.refl Z W).grown hge (by have := (Array.getElem?_eq_some_iff.1 hrow).1; omega) (fun k e => by cases e; omega)))
  have HB := hide HBe
  have HRe := hide hre
  clear hX hres hrow hMk hge HBe hre
  gi_wp2
  refine leaves_marks (base := Na) HMk.out fun w9 hSh => ⟨_, ret_amb rfl _ _ (Z + 1) _ rfl (hSh.row HRe.out) rfl, xg, xc, yg, yc, rfl, ?_, ?_, ?_⟩
  ·exact hSh.ownsRow ⟨HX.out.1, HX.out.2.elim .inl (fun ⟨g, c, cur, a, hb, b⟩ => .inr ⟨g, c, cur, a, by omega, b⟩)⟩
  ·exact hSh.ownsRow ⟨HY.out.1, HY.out.2.elim .inl (fun ⟨g, c, cur, a, hb, b⟩ => .inr ⟨g, c, cur, a, by omega, b⟩)⟩
  ·rw [hZ]; exact hSh.below HB.out (by omega)
end
end Go.Proofs.YtbnpjoiojhnimaaGreatDoor
