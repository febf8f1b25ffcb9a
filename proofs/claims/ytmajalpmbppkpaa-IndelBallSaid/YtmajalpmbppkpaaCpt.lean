/- The kit's contract on slices.Compact of strings laid at this program, in plain words (printed by the kit's lay-plain). -/
import Derived.Shelf.SlicesG.CompactS
import Derived.Ground.SlgnProg
import Derived.Test.YtmajalpmbppkpaaProg
set_option linter.unusedVariables false
namespace Go.Proofs
open Go.RowKit Go.Sort Go.Shelf
def Try.compact44_ren : Go.Shelf.Ren := ⟨fun | 44 => 44 | n => n, fun | 25 => 54 | 26 => 9 | 3 => 3 | 4 => 4 | 0 => 0 | n => n, fun | n => n⟩
theorem Try.compact44 : Go.Proofs.SlLaysN.n44 Try.prog Try.compact44_ren := {
  mixed := by kernel_rfl
  f44 := ⟨Try.f44.name, by decide, Try.func44.trans (congrArg some (by kernel_rfl))⟩
  t0 := Try.underlying0
  a0 := Try.isAgg0
  z0 := Try.sizeOf0
  v0 := Try.zeroValue0
  t3 := Try.underlying3
  a3 := Try.isAgg3
  z3 := Try.sizeOf3
  v3 := Try.zeroValue3
  t4 := Try.underlying4
  a4 := Try.isAgg4
  z4 := Try.sizeOf4
  v4 := Try.zeroValue4
  t25 := Try.underlying54
  a25 := Try.isAgg54
  z25 := Try.sizeOf54
  v25 := Try.zeroValue54
  t26 := Try.underlying9
  a26 := Try.isAgg9
  z26 := Try.sizeOf9
  v26 := Try.zeroValue9
  i26 := by kernel_rfl }
end Go.Proofs
