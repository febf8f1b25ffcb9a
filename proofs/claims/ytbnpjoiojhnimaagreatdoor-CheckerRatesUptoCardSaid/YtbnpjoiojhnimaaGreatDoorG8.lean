import Derived.Test.YtbnpjoiojhnimaaGreatDoorG7
import Derived.Test.YtbnpjoiojhnimaaGreatDoorG6
set_option linter.unusedSimpArgs false
set_option linter.unusedVariables false
/- Blocks of uint32 that the call itself makes; naturals that lie. -/
namespace Go.Proofs.YtbnpjoiojhnimaaGreatDoor
open Go.RowKit
section
def u32v (n : Nat) : Value := .int .u32 (n : Int)
def Limb (w : World) (g : Nat) (l : List Nat) : Prop := w.heap[g]? = some (.cells (l.map u32v).toArray 103 (0, 0))
theorem infoU32 : (Tryz.prog.info? 103).map (fun i => (i.zero, i.size, i.bytes)) = some (some (.int .u32 0), 1, 4) := by kernel_rfl
section
variable {w w' : World} {g : Nat} {l : List Nat}
theorem Limb.lt (h : Limb w g l) : g < w.heap.size := by
 rcases Nat.lt_or_ge g w.heap.size with hlt | hge
 ·exact hlt
 ·unfold Limb at h; rw [Array.getElem?_eq_none hge] at h; cases h
theorem Limb.cell (h : Limb w g l) {k : Nat} (hk : k < l.length) : w.cell? ⟨g, k, none⟩ = some (.int .u32 (l[k] : Int)) := by
 rw [cell_of_row w g k _ 103 (0, 0) h]; simp [hk, u32v]
theorem Limb.some_ (h : Limb w g l) {k : Nat} (hk : k < l.length) : ∃ v, w.cell? ⟨g, k, none⟩ = some v := ⟨_, h.cell hk⟩
theorem Limb.free_ (h : Limb w g l) (k : Nat) : w.frozen? ⟨g, k, none⟩ = false := by
 unfold Limb at h; simp [World.frozen?, h]
theorem Limb.drewN (h : Limb w g l) (n : Nat) : Limb (w.drewN n) g l := h
theorem Limb.alloc (h : Limb w g l) (o : Obj) : Limb (w.alloc o) g l := (Below.heap_alloc w o g h.lt).trans h
theorem Limb.set_ (h : Limb w g l) (k : Nat) (b : Nat) : Limb (w.setCell ⟨g, k, none⟩ (.int .u32 (b : Int))) g (l.set k b) := by
 unfold Limb at h ⊢
 simp [World.setCell, Array.getElem?_modify, h, List.map_set, u32v]
theorem Limb.new_ (w : World) (l : List Nat) {cs : Array Value} (hc : cs = (l.map u32v).toArray) : Limb (w.alloc (.cells cs 103)) w.heap.size l := by
 subst hc; exact heap_alloc_new w _
theorem Limb.below {B : Nat} (h : Limb w g l) (hb : Below B w w') (hg : g < B) : Limb w' g l := (hb.block g hg).trans h
end
theorem u32v_zeros (n : Nat) : ((List.replicate n (0 : Nat)).map u32v).toArray = (List.replicate n (Value.int .u32 0)).toArray := by
 rw [List.map_replicate]; rfl
theorem run_make_nat (n : Nat) (hn : n ≤ 70000) (w : World) :
  (Instr.makeSlice 106 (.int .i64 (n : Int)) (.int .i64 (n : Int))).run Tryz.prog w = .ok (.slice (some ⟨w.heap.size, 0, none⟩) n n) (w.alloc (.cells ((limbs n 0).map u32v).toArray 103)) := by
 obtain ⟨i0, hi, hz0, hz1, hz2⟩ := info_parts infoU32
 have h := run_make (P := Tryz.prog) w 106 103 i0 _ Tryz.underlying106 hi hz0 .i64 .i64 n n (by omega) (by omega) (by rw [hz2]; omega) (by omega)
 simp only [Int.toNat_natCast, hz1, Nat.mul_one] at h
 rw [h, made_one _ rfl, limbs_zero, u32v_zeros]
def NatC (w : World) (A : Option Addr) (m N : Nat) : Prop := 0 < m → ∃ g, A = some ⟨g, 0, none⟩ ∧ g < w.heap.size ∧ ∀ k, k < m → w.cell? ⟨g, k, none⟩ = some (.int .u32 ((N / 4294967296 ^ k % 4294967296 : Nat) : Int))
theorem NatC.below {w w' : World} {A : Option Addr} {m N : Nat} (h : NatC w A m N) (hB : Below w.heap.size w w') : NatC w' A m N := by
 intro h0
 obtain ⟨g, h1, h2, h3⟩ := h h0
 exact ⟨g, h1, Nat.lt_of_lt_of_le h2 hB.size, fun k hk => (hB.cell (p := ⟨g, k, none⟩) h2).trans (h3 k hk)⟩
theorem NatC.less {w : World} {A : Option Addr} {m N l : Nat} (h : NatC w A m N) (hl : l ≤ m) : NatC w A l N := by
 intro h0
 obtain ⟨g, h1, h2, h3⟩ := h (by omega)
 exact ⟨g, h1, h2, fun k hk => h3 k (by omega)⟩
theorem Limb.nat {w : World} {g m N : Nat} (h : Limb w g (limbs m N)) : NatC w (some ⟨g, 0, none⟩) m N := by
 intro h0
 refine ⟨g, rfl, h.lt, fun k hk => ?_⟩
 have := h.cell (k := k) (by rw [limbs_len]; exact hk)
 rw [limbs_get] at this
 exact this
def NatV (w : World) (v : Value) (N : Nat) : Prop := ∃ A l c, v = .slice A l c ∧ Trm N l ∧ l ≤ c ∧ NatC w A l N
theorem NatV.below {w w' : World} {v : Value} {N : Nat} (h : NatV w v N) (hB : Below w.heap.size w w') : NatV w' v N := by
 obtain ⟨A, l, c, h1, h2, h3, h4⟩ := h
 exact ⟨A, l, c, h1, h2, h3, h4.below hB⟩
def intV (N : Nat) : Value := .agg #[.bool false, .string ⟨(beN N).toArray⟩]
end
end Go.Proofs.YtbnpjoiojhnimaaGreatDoor
namespace Go.Proofs.YtbnpjoiojhnimaaGreatDoor
def bvr : List UInt8 → Nat
 | [] => 0
 | c :: t => c.toNat + 256 * bvr t
def bvB (s : ByteArray) : Nat := bvr s.data.toList.reverse
theorem bvr_lt (l : List UInt8) : bvr l < 256 ^ l.length := by
 induction l with
 | nil => simp [bvr]
 | cons c t ih =>
  have := UInt8.toNat_lt c
  simp only [bvr, List.length_cons, Nat.pow_succ]
  omega
theorem bvr_byte : (l : List UInt8) → (i : Nat) → (h : i < l.length) → l[i].toNat = bvr l / 256 ^ i % 256
 | c :: t, 0, h => by
  have := UInt8.toNat_lt c
  simp only [List.getElem_cons_zero, bvr, Nat.pow_zero, Nat.div_one]
  omega
 | c :: t, i + 1, h => by
  have := UInt8.toNat_lt c
  have ih := bvr_byte t i (by simpa using h)
  simp only [List.getElem_cons_succ, bvr]
  rw [ih, Nat.pow_succ, Nat.mul_comm (256 ^ i), ← Nat.div_div_eq_div_mul, show (c.toNat + 256 * bvr t) / 256 = bvr t by omega]
theorem bv_byte {s : ByteArray} {N i : Nat} (hs : N = bvB s) (hi : i < s.size) (hk : s.size - 1 - i < s.size) : s[s.size - 1 - i].toNat = N / 256 ^ i % 256 := by
 have h := bvr_byte s.data.toList.reverse i (by simpa using hi)
 rw [List.getElem_reverse] at h
 have e : s[s.size - 1 - i] = s.data.toList[s.data.toList.length - 1 - i]'(by simp; omega) := by
  have : s.data.toList.length = s.size := by simp
  simp only [this]; rfl
 rw [e, h, hs]; rfl
theorem bv_lt {s : ByteArray} {N : Nat} (hs : N = bvB s) : N < 256 ^ s.size := by
 have := bvr_lt s.data.toList.reverse
 rw [hs]
 simpa [bvB] using this
theorem bvr_be (N : Nat) : bvr (beN N).reverse = N := by
 induction N using Nat.strongRecOn with
 | _ n ih =>
  by_cases h : n = 0
  ·subst h; rw [beN_zero]; rfl
  ·have e : n = 256 * (n / 256) + n % 256 := by omega
   have := beN_snoc (M := n / 256) (c := n % 256) (by omega) (by omega)
   rw [← e] at this
   rw [this, List.reverse_append, List.reverse_singleton, List.singleton_append]
   simp only [bvr]
   rw [ih (n / 256) (by omega), UInt8.toNat_ofNat']
   omega
theorem bv_be (N : Nat) : N = bvB ⟨(beN N).toArray⟩ := by
 unfold bvB
 exact (bvr_be N).symm
def sgV (z : Int) : Value := .agg #[.bool (decide (z < 0)), .string ⟨(beN z.natAbs).toArray⟩]
end Go.Proofs.YtbnpjoiojhnimaaGreatDoor
