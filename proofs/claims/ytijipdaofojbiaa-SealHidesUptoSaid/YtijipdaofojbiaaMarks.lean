/-
  DERIVED: THE SHELF's CONTRACTS AT THIS DUMP, IN PLAIN WORDS (tools/lay-plain.mjs out of 'YtijipdaofojbiaaMarks0.lean', which tools/lay-shelf.mjs wrote): THE SAME DECLARATIONS UNDER THE SAME NAMES: 'import', 'namespace', 'open', 'def', 'theorem' AND NOTHING ELSE: no command of the shelf's: FOR A HAND-IN. Each laying: the table of numbers ('.._ren') and one theorem, a field a fact of the dump's own or the kernel's comparison; each contract: ONE APPLICATION.
-/
import Derived.Shelf.Bytes.SlIndexWhole
import Derived.Shelf.LaysM
import Derived.Test.YtijipdaofojbiaaProg
namespace Go.Proofs
open Go.Shelf
def Try.laysM186_ren : Go.Shelf.Ren := ⟨fun | 186 => 14 | 185 => 27 | 187 => 43 | 115 => 44 | 253 => 45 | 224 => 46 | 254 => 47 | 255 => 60 | 291 => 61 | n => n, fun | 37 => 30 | 4 => 4 | 3 => 3 | 0 => 0 | 5 => 5 | 46 => 85 | 9 => 9 | 146 => 120 | 51 => 107 | n => n, fun | 1 => 0 | n => n⟩
theorem Try.laysM186 : Go.Proofs.LaysM.n186 Try.prog Try.laysM186_ren := {
  mixed := by kernel_rfl
  f115 := Try.func44.trans (congrArg some (by kernel_rfl))
  f185 := Try.func27.trans (congrArg some (by kernel_rfl))
  f186 := Try.func14.trans (congrArg some (by kernel_rfl))
  f187 := Try.func43.trans (congrArg some (by kernel_rfl))
  f224 := Try.func46.trans (congrArg some (by kernel_rfl))
  f253 := Try.func45.trans (congrArg some (by kernel_rfl))
  f254 := Try.func47.trans (congrArg some (by kernel_rfl))
  f255 := Try.func60.trans (congrArg some (by kernel_rfl))
  f291 := Try.func61.trans (congrArg some (by kernel_rfl))
  t0 := Try.underlying0
  a0 := Try.isAgg0
  z0 := Try.sizeOf0
  v0 := Try.zeroValue0
  t3 := Try.underlying3
  a3 := Try.isAgg3
  z3 := Try.sizeOf3
  v3 := Try.zeroValue3
  t4 := Try.underlying4
  a4 := Try.isAgg4
  z4 := Try.sizeOf4
  v4 := Try.zeroValue4
  t5 := Try.underlying5
  a5 := Try.isAgg5
  z5 := Try.sizeOf5
  v5 := Try.zeroValue5
  t9 := Try.underlying9
  a9 := Try.isAgg9
  z9 := Try.sizeOf9
  v9 := Try.zeroValue9
  t37 := Try.underlying30
  a37 := Try.isAgg30
  z37 := Try.sizeOf30
  v37 := Try.zeroValue30
  t46 := Try.underlying85
  a46 := Try.isAgg85
  z46 := Try.sizeOf85
  v46 := Try.zeroValue85
  t51 := Try.underlying107
  a51 := Try.isAgg107
  z51 := Try.sizeOf107
  v51 := Try.zeroValue107
  t146 := Try.underlying120
  a146 := Try.isAgg120
  z146 := Try.sizeOf120
  v146 := Try.zeroValue120
  g1 := by kernel_rfl
  i0 := by kernel_rfl
  i3 := by kernel_rfl
  i4 := by kernel_rfl
  i5 := by kernel_rfl
  i9 := by kernel_rfl
  i37 := by kernel_rfl
  i46 := by kernel_rfl
  i51 := by kernel_rfl
  i146 := by kernel_rfl
  m1 := by kernel_rfl
  s1_3 := fun w h => Go.Proofs.cell_of_shapedOpen_int (zero := #[.int .i64 0]) (t := 3) h (of_decide_eq_true (by kernel_rfl)) (by kernel_rfl) rfl (by kernel_rfl) (by kernel_rfl) Try.underlying3 }
end Go.Proofs
