/-
  DERIVED: THE SHELF's CONTRACTS AT THIS DUMP, IN PLAIN WORDS (tools/lay-plain.mjs out of 'YtphkicoajokgcaaGreatMarks0.lean', which tools/lay-shelf.mjs wrote): THE SAME DECLARATIONS UNDER THE SAME NAMES: 'import', 'namespace', 'open', 'def', 'theorem' AND NOTHING ELSE: no command of the shelf's: FOR A HAND-IN. Each laying: the table of numbers ('.._ren') and one theorem, a field a fact of the dump's own or the kernel's comparison; each contract: ONE APPLICATION.
-/
import Derived.Shelf.Bytes.SlIndexWhole
import Derived.Shelf.LaysM
import Derived.Test.YtphkicoajokgcaaGreatProg
namespace Go.Proofs
open Go.Shelf
def Tryz.laysM186_ren : Go.Shelf.Ren := ⟨fun | 186 => 38 | 185 => 53 | 187 => 70 | 115 => 71 | 253 => 72 | 224 => 73 | 254 => 74 | 255 => 93 | 291 => 94 | n => n, fun | 37 => 35 | 4 => 4 | 3 => 3 | 0 => 0 | 5 => 5 | 46 => 80 | 9 => 9 | 146 => 142 | 51 => 125 | n => n, fun | 1 => 0 | n => n⟩
theorem Tryz.laysM186 : Go.Proofs.LaysM.n186 Tryz.prog Tryz.laysM186_ren := {
  mixed := by kernel_rfl
  f115 := Tryz.func71.trans (congrArg some (by kernel_rfl))
  f185 := Tryz.func53.trans (congrArg some (by kernel_rfl))
  f186 := Tryz.func38.trans (congrArg some (by kernel_rfl))
  f187 := Tryz.func70.trans (congrArg some (by kernel_rfl))
  f224 := Tryz.func73.trans (congrArg some (by kernel_rfl))
  f253 := Tryz.func72.trans (congrArg some (by kernel_rfl))
  f254 := Tryz.func74.trans (congrArg some (by kernel_rfl))
  f255 := Tryz.func93.trans (congrArg some (by kernel_rfl))
  f291 := Tryz.func94.trans (congrArg some (by kernel_rfl))
  t0 := Tryz.underlying0
  a0 := Tryz.isAgg0
  z0 := Tryz.sizeOf0
  v0 := Tryz.zeroValue0
  t3 := Tryz.underlying3
  a3 := Tryz.isAgg3
  z3 := Tryz.sizeOf3
  v3 := Tryz.zeroValue3
  t4 := Tryz.underlying4
  a4 := Tryz.isAgg4
  z4 := Tryz.sizeOf4
  v4 := Tryz.zeroValue4
  t5 := Tryz.underlying5
  a5 := Tryz.isAgg5
  z5 := Tryz.sizeOf5
  v5 := Tryz.zeroValue5
  t9 := Tryz.underlying9
  a9 := Tryz.isAgg9
  z9 := Tryz.sizeOf9
  v9 := Tryz.zeroValue9
  t37 := Tryz.underlying35
  a37 := Tryz.isAgg35
  z37 := Tryz.sizeOf35
  v37 := Tryz.zeroValue35
  t46 := Tryz.underlying80
  a46 := Tryz.isAgg80
  z46 := Tryz.sizeOf80
  v46 := Tryz.zeroValue80
  t51 := Tryz.underlying125
  a51 := Tryz.isAgg125
  z51 := Tryz.sizeOf125
  v51 := Tryz.zeroValue125
  t146 := Tryz.underlying142
  a146 := Tryz.isAgg142
  z146 := Tryz.sizeOf142
  v146 := Tryz.zeroValue142
  g1 := by kernel_rfl
  i0 := by kernel_rfl
  i3 := by kernel_rfl
  i4 := by kernel_rfl
  i5 := by kernel_rfl
  i9 := by kernel_rfl
  i37 := by kernel_rfl
  i46 := by kernel_rfl
  i51 := by kernel_rfl
  i146 := by kernel_rfl
  m1 := by kernel_rfl
  s1_3 := fun w h => Go.Proofs.cell_of_shapedOpen_int (zero := #[.int .i64 0]) (t := 3) h (of_decide_eq_true (by kernel_rfl)) (by kernel_rfl) rfl (by kernel_rfl) (by kernel_rfl) Tryz.underlying3 }
end Go.Proofs
