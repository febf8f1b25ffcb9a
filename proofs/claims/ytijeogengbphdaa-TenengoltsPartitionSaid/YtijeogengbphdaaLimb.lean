/- Blocks of uint32 that the call itself makes; naturals that lie. -/
import Derived.Test.YtijeogengbphdaaBytes
import Derived.Test.YtijeogengbphdaaBigP
set_option linter.unusedVariables false
namespace Go.Proofs.Ytijeogengbphdaa
open Go.RowKit
def u32v (n : Nat) : Value := .int .u32 (n : Int)
/-- block g is just the limbs l, not frozen -/
def Limb (w : World) (g : Nat) (l : List Nat) : Prop := w.heap[g]? = some (.cells (l.map u32v).toArray 81 (0, 0))
theorem infoU32 : (Try.prog.info? 81).map (fun i => (i.zero, i.size, i.bytes)) = some (some (.int .u32 0), 1, 4) := by kernel_rfl
section
variable {w w' : World} {g : Nat} {l : List Nat}
theorem Limb.lt (h : Limb w g l) : g < w.heap.size := by
  rcases Nat.lt_or_ge g w.heap.size with hlt | hge
  · exact hlt
  · unfold Limb at h; rw [Array.getElem?_eq_none hge] at h; cases h
theorem Limb.cell (h : Limb w g l) {k : Nat} (hk : k < l.length) : w.cell? ⟨g, k, none⟩ = some (.int .u32 (l[k] : Int)) := by
  rw [cell_of_row w g k _ 81 (0, 0) h]; simp [hk, u32v]
theorem Limb.some_ (h : Limb w g l) {k : Nat} (hk : k < l.length) : ∃ v, w.cell? ⟨g, k, none⟩ = some v := ⟨_, h.cell hk⟩
theorem Limb.free_ (h : Limb w g l) (k : Nat) : w.frozen? ⟨g, k, none⟩ = false := by
  unfold Limb at h; simp [World.frozen?, h]
theorem Limb.drewN (h : Limb w g l) (n : Nat) : Limb (w.drewN n) g l := h
theorem Limb.alloc (h : Limb w g l) (o : Obj) : Limb (w.alloc o) g l := (Below.heap_alloc w o g h.lt).trans h
theorem Limb.set_ (h : Limb w g l) (k : Nat) (b : Nat) : Limb (w.setCell ⟨g, k, none⟩ (.int .u32 (b : Int))) g (l.set k b) := by
  unfold Limb at h ⊢
  simp [World.setCell, Array.getElem?_modify, h, List.map_set, u32v]
theorem Limb.new_ (w : World) (l : List Nat) {cs : Array Value} (hc : cs = (l.map u32v).toArray) : Limb (w.alloc (.cells cs 81)) w.heap.size l := by
  subst hc; exact heap_alloc_new w _
theorem Limb.below {B : Nat} (h : Limb w g l) (hb : Below B w w') (hg : g < B) : Limb w' g l := (hb.block g hg).trans h
end
theorem u32v_zeros (n : Nat) : ((List.replicate n (0 : Nat)).map u32v).toArray = (List.replicate n (Value.int .u32 0)).toArray := by
  rw [List.map_replicate]; rfl
theorem run_make_nat (n : Nat) (hn : n ≤ 70000) (w : World) :
    (Instr.makeSlice 73 (.int .i64 (n : Int)) (.int .i64 (n : Int))).run Try.prog w = .ok (.slice (some ⟨w.heap.size, 0, none⟩) n n) (w.alloc (.cells ((limbs n 0).map u32v).toArray 81)) := by
  obtain ⟨i0, hi, hz0, hz1, hz2⟩ := info_parts infoU32
  have h := run_make (P := Try.prog) w 73 81 i0 _ Try.underlying73 hi hz0 .i64 .i64 n n (by omega) (by omega) (by rw [hz2]; omega) (by omega)
  simp only [Int.toNat_natCast, hz1, Nat.mul_one] at h
  rw [h, made_one _ rfl, limbs_zero, u32v_zeros]
/-- the limbs of N lie there -/
def NatC (w : World) (A : Option Addr) (m N : Nat) : Prop := 0 < m → ∃ g, A = some ⟨g, 0, none⟩ ∧ g < w.heap.size ∧ ∀ k, k < m → w.cell? ⟨g, k, none⟩ = some (.int .u32 ((N / 4294967296 ^ k % 4294967296 : Nat) : Int))
theorem NatC.below {w w' : World} {A : Option Addr} {m N : Nat} (h : NatC w A m N) (hB : Below w.heap.size w w') : NatC w' A m N := by
  intro h0
  obtain ⟨g, h1, h2, h3⟩ := h h0
  exact ⟨g, h1, Nat.lt_of_lt_of_le h2 hB.size, fun k hk => (hB.cell (p := ⟨g, k, none⟩) h2).trans (h3 k hk)⟩
theorem NatC.less {w : World} {A : Option Addr} {m N l : Nat} (h : NatC w A m N) (hl : l ≤ m) : NatC w A l N := by
  intro h0
  obtain ⟨g, h1, h2, h3⟩ := h (by omega)
  exact ⟨g, h1, h2, fun k hk => h3 k (by omega)⟩
theorem Limb.nat {w : World} {g m N : Nat} (h : Limb w g (limbs m N)) : NatC w (some ⟨g, 0, none⟩) m N := by
  intro h0
  refine ⟨g, rfl, h.lt, fun k hk => ?_⟩
  have := h.cell (k := k) (by rw [limbs_len]; exact hk)
  rw [limbs_get] at this
  exact this
/-- a natural: its limbs, without a zero at the end -/
def NatV (w : World) (v : Value) (N : Nat) : Prop := ∃ A l c, v = .slice A l c ∧ Trm N l ∧ l ≤ c ∧ NatC w A l N
theorem NatV.below {w w' : World} {v : Value} {N : Nat} (h : NatV w v N) (hB : Below w.heap.size w w') : NatV w' v N := by
  obtain ⟨A, l, c, h1, h2, h3, h4⟩ := h
  exact ⟨A, l, c, h1, h2, h3, h4.below hB⟩
/-- an integer that is not negative -/
def intV (N : Nat) : Value := .agg #[.bool false, .string ⟨(beN N).toArray⟩]
end Go.Proofs.Ytijeogengbphdaa
