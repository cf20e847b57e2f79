/-
  DERIVED: THE SHELF's CONTRACTS AT THIS DUMP, IN PLAIN WORDS (tools/lay-plain.mjs out of 'YtgdkaljbjhbeiaaMarks0.lean', which tools/lay-shelf.mjs wrote): THE SAME DECLARATIONS UNDER THE SAME NAMES: 'import', 'namespace', 'open', 'def', 'theorem' AND NOTHING ELSE: no command of the shelf's: FOR A HAND-IN. Each laying: the table of numbers ('.._ren') and one theorem, a field a fact of the dump's own or the kernel's comparison; each contract: ONE APPLICATION.
-/
import Derived.Shelf.Bytes.SlIndexWhole
import Derived.Shelf.LaysM
import Derived.Test.YtgdkaljbjhbeiaaProg
namespace Go.Proofs
open Go.Shelf
def Try.laysM186_ren : Go.Shelf.Ren := ⟨fun | 186 => 38 | 185 => 52 | 187 => 70 | 115 => 71 | 253 => 72 | 224 => 73 | 254 => 74 | 255 => 85 | 291 => 86 | n => n, fun | 37 => 23 | 4 => 4 | 3 => 3 | 0 => 0 | 5 => 5 | 46 => 72 | 9 => 9 | 146 => 114 | 51 => 92 | n => n, fun | 1 => 0 | n => n⟩
theorem Try.laysM186 : Go.Proofs.LaysM.n186 Try.prog Try.laysM186_ren := {
  mixed := by kernel_rfl
  f115 := Try.func71.trans (congrArg some (by kernel_rfl))
  f185 := Try.func52.trans (congrArg some (by kernel_rfl))
  f186 := Try.func38.trans (congrArg some (by kernel_rfl))
  f187 := Try.func70.trans (congrArg some (by kernel_rfl))
  f224 := Try.func73.trans (congrArg some (by kernel_rfl))
  f253 := Try.func72.trans (congrArg some (by kernel_rfl))
  f254 := Try.func74.trans (congrArg some (by kernel_rfl))
  f255 := Try.func85.trans (congrArg some (by kernel_rfl))
  f291 := Try.func86.trans (congrArg some (by kernel_rfl))
  t0 := Try.underlying0
  a0 := Try.isAgg0
  z0 := Try.sizeOf0
  v0 := Try.zeroValue0
  t3 := Try.underlying3
  a3 := Try.isAgg3
  z3 := Try.sizeOf3
  v3 := Try.zeroValue3
  t4 := Try.underlying4
  a4 := Try.isAgg4
  z4 := Try.sizeOf4
  v4 := Try.zeroValue4
  t5 := Try.underlying5
  a5 := Try.isAgg5
  z5 := Try.sizeOf5
  v5 := Try.zeroValue5
  t9 := Try.underlying9
  a9 := Try.isAgg9
  z9 := Try.sizeOf9
  v9 := Try.zeroValue9
  t37 := Try.underlying23
  a37 := Try.isAgg23
  z37 := Try.sizeOf23
  v37 := Try.zeroValue23
  t46 := Try.underlying72
  a46 := Try.isAgg72
  z46 := Try.sizeOf72
  v46 := Try.zeroValue72
  t51 := Try.underlying92
  a51 := Try.isAgg92
  z51 := Try.sizeOf92
  v51 := Try.zeroValue92
  t146 := Try.underlying114
  a146 := Try.isAgg114
  z146 := Try.sizeOf114
  v146 := Try.zeroValue114
  g1 := by kernel_rfl
  i0 := by kernel_rfl
  i3 := by kernel_rfl
  i4 := by kernel_rfl
  i5 := by kernel_rfl
  i9 := by kernel_rfl
  i37 := by kernel_rfl
  i46 := by kernel_rfl
  i51 := by kernel_rfl
  i146 := by kernel_rfl
  m1 := by kernel_rfl
  s1_3 := fun w h => Go.Proofs.cell_of_shapedOpen_int (zero := #[.int .i64 0]) (t := 3) h (of_decide_eq_true (by kernel_rfl)) (by kernel_rfl) rfl (by kernel_rfl) (by kernel_rfl) Try.underlying3 }
end Go.Proofs
