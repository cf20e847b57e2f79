/-
  DERIVED: THE SHELF's CONTRACTS AT THIS DUMP, IN PLAIN WORDS (tools/lay-plain.mjs out of 'YtejjeggaofpbiaaMarks0.lean', which tools/lay-shelf.mjs wrote): THE SAME DECLARATIONS UNDER THE SAME NAMES: 'import', 'namespace', 'open', 'def', 'theorem' AND NOTHING ELSE: no command of the shelf's: FOR A HAND-IN. Each laying: the table of numbers ('.._ren') and one theorem, a field a fact of the dump's own or the kernel's comparison; each contract: ONE APPLICATION.
-/
import Derived.Shelf.Bytes.SlIndexWhole
import Derived.Shelf.LaysM
import Derived.Test.YtejjeggaofpbiaaProg
namespace Go.Proofs
open Go.Shelf
def Try.laysM186_ren : Go.Shelf.Ren := ⟨fun | 186 => 27 | 185 => 42 | 187 => 55 | 115 => 56 | 253 => 57 | 224 => 58 | 254 => 59 | 255 => 70 | 291 => 71 | n => n, fun | 37 => 58 | 4 => 4 | 3 => 3 | 0 => 0 | 5 => 5 | 46 => 95 | 9 => 9 | 146 => 136 | 51 => 120 | n => n, fun | 1 => 0 | n => n⟩
theorem Try.laysM186 : Go.Proofs.LaysM.n186 Try.prog Try.laysM186_ren := {
  mixed := by kernel_rfl
  f115 := Try.func56.trans (congrArg some (by kernel_rfl))
  f185 := Try.func42.trans (congrArg some (by kernel_rfl))
  f186 := Try.func27.trans (congrArg some (by kernel_rfl))
  f187 := Try.func55.trans (congrArg some (by kernel_rfl))
  f224 := Try.func58.trans (congrArg some (by kernel_rfl))
  f253 := Try.func57.trans (congrArg some (by kernel_rfl))
  f254 := Try.func59.trans (congrArg some (by kernel_rfl))
  f255 := Try.func70.trans (congrArg some (by kernel_rfl))
  f291 := Try.func71.trans (congrArg some (by kernel_rfl))
  t0 := Try.underlying0
  a0 := Try.isAgg0
  z0 := Try.sizeOf0
  v0 := Try.zeroValue0
  t3 := Try.underlying3
  a3 := Try.isAgg3
  z3 := Try.sizeOf3
  v3 := Try.zeroValue3
  t4 := Try.underlying4
  a4 := Try.isAgg4
  z4 := Try.sizeOf4
  v4 := Try.zeroValue4
  t5 := Try.underlying5
  a5 := Try.isAgg5
  z5 := Try.sizeOf5
  v5 := Try.zeroValue5
  t9 := Try.underlying9
  a9 := Try.isAgg9
  z9 := Try.sizeOf9
  v9 := Try.zeroValue9
  t37 := Try.underlying58
  a37 := Try.isAgg58
  z37 := Try.sizeOf58
  v37 := Try.zeroValue58
  t46 := Try.underlying95
  a46 := Try.isAgg95
  z46 := Try.sizeOf95
  v46 := Try.zeroValue95
  t51 := Try.underlying120
  a51 := Try.isAgg120
  z51 := Try.sizeOf120
  v51 := Try.zeroValue120
  t146 := Try.underlying136
  a146 := Try.isAgg136
  z146 := Try.sizeOf136
  v146 := Try.zeroValue136
  g1 := by kernel_rfl
  i0 := by kernel_rfl
  i3 := by kernel_rfl
  i4 := by kernel_rfl
  i5 := by kernel_rfl
  i9 := by kernel_rfl
  i37 := by kernel_rfl
  i46 := by kernel_rfl
  i51 := by kernel_rfl
  i146 := by kernel_rfl
  m1 := by kernel_rfl
  s1_3 := fun w h => Go.Proofs.cell_of_shapedOpen_int (zero := #[.int .i64 0]) (t := 3) h (of_decide_eq_true (by kernel_rfl)) (by kernel_rfl) rfl (by kernel_rfl) (by kernel_rfl) Try.underlying3 }
end Go.Proofs
