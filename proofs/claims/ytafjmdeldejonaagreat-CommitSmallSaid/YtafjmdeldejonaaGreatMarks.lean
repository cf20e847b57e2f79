/-
  DERIVED: THE SHELF's CONTRACTS AT THIS DUMP, IN PLAIN WORDS (tools/lay-plain.mjs out of 'YtafjmdeldejonaaGreatMarks0.lean', which tools/lay-shelf.mjs wrote): THE SAME DECLARATIONS UNDER THE SAME NAMES: 'import', 'namespace', 'open', 'def', 'theorem' AND NOTHING ELSE: no command of the shelf's: FOR A HAND-IN. Each laying: the table of numbers ('.._ren') and one theorem, a field a fact of the dump's own or the kernel's comparison; each contract: ONE APPLICATION.
-/
import Derived.Shelf.Bytes.SlIndexWhole
import Derived.Shelf.LaysM
import Derived.Test.YtafjmdeldejonaaGreatProg
namespace Go.Proofs
open Go.Shelf
def Tryz.laysM186_ren : Go.Shelf.Ren := ⟨fun | 186 => 49 | 185 => 67 | 187 => 86 | 115 => 87 | 253 => 88 | 224 => 89 | 254 => 90 | 255 => 105 | 291 => 106 | n => n, fun | 37 => 34 | 4 => 4 | 3 => 3 | 0 => 0 | 5 => 5 | 46 => 80 | 9 => 9 | 146 => 159 | 51 => 123 | n => n, fun | 1 => 0 | n => n⟩
theorem Tryz.laysM186 : Go.Proofs.LaysM.n186 Tryz.prog Tryz.laysM186_ren := {
  mixed := by kernel_rfl
  f115 := Tryz.func87.trans (congrArg some (by kernel_rfl))
  f185 := Tryz.func67.trans (congrArg some (by kernel_rfl))
  f186 := Tryz.func49.trans (congrArg some (by kernel_rfl))
  f187 := Tryz.func86.trans (congrArg some (by kernel_rfl))
  f224 := Tryz.func89.trans (congrArg some (by kernel_rfl))
  f253 := Tryz.func88.trans (congrArg some (by kernel_rfl))
  f254 := Tryz.func90.trans (congrArg some (by kernel_rfl))
  f255 := Tryz.func105.trans (congrArg some (by kernel_rfl))
  f291 := Tryz.func106.trans (congrArg some (by kernel_rfl))
  t0 := Tryz.underlying0
  a0 := Tryz.isAgg0
  z0 := Tryz.sizeOf0
  v0 := Tryz.zeroValue0
  t3 := Tryz.underlying3
  a3 := Tryz.isAgg3
  z3 := Tryz.sizeOf3
  v3 := Tryz.zeroValue3
  t4 := Tryz.underlying4
  a4 := Tryz.isAgg4
  z4 := Tryz.sizeOf4
  v4 := Tryz.zeroValue4
  t5 := Tryz.underlying5
  a5 := Tryz.isAgg5
  z5 := Tryz.sizeOf5
  v5 := Tryz.zeroValue5
  t9 := Tryz.underlying9
  a9 := Tryz.isAgg9
  z9 := Tryz.sizeOf9
  v9 := Tryz.zeroValue9
  t37 := Tryz.underlying34
  a37 := Tryz.isAgg34
  z37 := Tryz.sizeOf34
  v37 := Tryz.zeroValue34
  t46 := Tryz.underlying80
  a46 := Tryz.isAgg80
  z46 := Tryz.sizeOf80
  v46 := Tryz.zeroValue80
  t51 := Tryz.underlying123
  a51 := Tryz.isAgg123
  z51 := Tryz.sizeOf123
  v51 := Tryz.zeroValue123
  t146 := Tryz.underlying159
  a146 := Tryz.isAgg159
  z146 := Tryz.sizeOf159
  v146 := Tryz.zeroValue159
  g1 := by kernel_rfl
  i0 := by kernel_rfl
  i3 := by kernel_rfl
  i4 := by kernel_rfl
  i5 := by kernel_rfl
  i9 := by kernel_rfl
  i37 := by kernel_rfl
  i46 := by kernel_rfl
  i51 := by kernel_rfl
  i146 := by kernel_rfl
  m1 := by kernel_rfl
  s1_3 := fun w h => Go.Proofs.cell_of_shapedOpen_int (zero := #[.int .i64 0]) (t := 3) h (of_decide_eq_true (by kernel_rfl)) (by kernel_rfl) rfl (by kernel_rfl) (by kernel_rfl) Tryz.underlying3 }
end Go.Proofs
