import Derived.Test.YtbnpjoiojhnimaaGreatDoorG5
import Derived.Laws.IdiomStrings
import Derived.Laws.MakeOwn
set_option linter.unusedSimpArgs false
set_option linter.unusedVariables false
/- Blocks of bytes that the call itself makes ([]byte of a fixed length). -/
namespace Go.Proofs.YtbnpjoiojhnimaaGreatDoor
open Go.RowKit
section
def byt (b : UInt8) : Value := .int .u8 (b.toNat : Int)
def Byt (w : World) (g : Nat) (l : List UInt8) : Prop := w.heap[g]? = some (.cells (l.map byt).toArray 5 (0, 0))
theorem infoByte : (Tryz.prog.info? 5).map (fun i => (i.zero, i.size, i.bytes)) = some (some (.int .u8 0), 1, 1) := by kernel_rfl
section
variable {w w' : World} {g : Nat} {l : List UInt8}
theorem Byt.lt (h : Byt w g l) : g < w.heap.size := by
 rcases Nat.lt_or_ge g w.heap.size with hlt | hge
 ·exact hlt
 ·unfold Byt at h; rw [Array.getElem?_eq_none hge] at h; cases h
theorem Byt.cell (h : Byt w g l) {k : Nat} (hk : k < l.length) : w.cell? ⟨g, k, none⟩ = some (.int .u8 (l[k].toNat : Int)) := by
 rw [cell_of_row w g k _ 5 (0, 0) h]; simp [hk, byt]
theorem Byt.some_ (h : Byt w g l) {k : Nat} (hk : k < l.length) : ∃ v, w.cell? ⟨g, k, none⟩ = some v := ⟨_, h.cell hk⟩
theorem Byt.free_ (h : Byt w g l) (k : Nat) : w.frozen? ⟨g, k, none⟩ = false := by
 unfold Byt at h; simp [World.frozen?, h]
theorem Byt.drew (h : Byt w g l) : Byt w.drew g l := h
theorem Byt.drewN (h : Byt w g l) (n : Nat) : Byt (w.drewN n) g l := h
theorem Byt.alloc (h : Byt w g l) (o : Obj) : Byt (w.alloc o) g l := (Below.heap_alloc w o g h.lt).trans h
theorem Byt.set_ (h : Byt w g l) (k : Nat) (b : UInt8) : Byt (w.setCell ⟨g, k, none⟩ (.int .u8 (b.toNat : Int))) g (l.set k b) := by
 unfold Byt at h ⊢
 simp [World.setCell, Array.getElem?_modify, h, List.map_set, byt]
theorem Byt.new_ (w : World) (l : List UInt8) {cs : Array Value} (hc : cs = (l.map byt).toArray) : Byt (w.alloc (.cells cs 5)) w.heap.size l := by
 subst hc; exact heap_alloc_new w _
theorem Byt.below {B : Nat} (h : Byt w g l) (hb : Below B w w') (hg : g < B) : Byt w' g l := (hb.block g hg).trans h
end
theorem made_one (z : Value) (hz : z.cells = #[z]) (n : Nat) : madeCells z.cells n = (List.replicate n z).toArray := by
 unfold madeCells
 rw [hz]
 apply Array.ext
 ·simp
 ·intro i h1 h2
  simp [Nat.mod_one]
theorem byt_zeros (n : Nat) : ((List.replicate n (0 : UInt8)).map byt).toArray = (List.replicate n (Value.int .u8 0)).toArray := by
 rw [List.map_replicate]; rfl
theorem run_make_bytes (n : Nat) (hn : n ≤ 70000) (w : World) :
  (Instr.makeSlice 39 (.int .i64 (n : Int)) (.int .i64 (n : Int))).run Tryz.prog w = .ok (.slice (some ⟨w.heap.size, 0, none⟩) n n) (w.alloc (.cells ((List.replicate n (0 : UInt8)).map byt).toArray 5)) := by
 obtain ⟨i0, hi, hz0, hz1, hz2⟩ := info_parts infoByte
 have h := run_make (P := Tryz.prog) w 39 5 i0 _ Tryz.underlying39 hi hz0 .i64 .i64 n n (by omega) (by omega) (by rw [hz2]; omega) (by omega)
 simp only [Int.toNat_natCast, hz1, Nat.mul_one] at h
 rw [h, made_one _ rfl, byt_zeros]
theorem run_back_bytes {w : World} {g : Nat} {l : List UInt8} (h : Byt w g l) {n c : Nat} (hn : n = l.length) :
  (convert 39 9 (.slice (some ⟨g, 0, none⟩) n c)).run Tryz.prog w = .ok (.string ⟨l.toArray⟩) w := by
 subst hn
 refine run_convert_bytes_back w 39 9 5 ⟨g, 0, none⟩ c l Tryz.underlying39 Tryz.underlying5 Tryz.underlying9 fun j hj => ?_
 have : (⟨g, 0, none⟩ : Addr).add j = ⟨g, j, none⟩ := by unfold Addr.add; split <;> simp_all
 rw [this]; exact h.cell hj
end
end Go.Proofs.YtbnpjoiojhnimaaGreatDoor
