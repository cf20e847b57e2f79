import Derived.Test.YtoehmgmiambcnaaSig
set_option linter.unusedVariables false
set_option maxRecDepth 100000
namespace Go.Proofs.Ytoehmgmiambcnaa
open Go.Ev
/-! math/bits.RotateLeft32 -/
def math_bits_RotateLeft32.body (x0 : Int) (k1 : Int) (R : Value → Heap → Prop) (h : Heap) : Prop :=
  shiftK (IntKind.u64.wrap (BitVec.ofInt (IntKind.bits .u64) (IntKind.u64.wrap k1) &&& BitVec.ofInt (IntKind.bits .u64) 31).toNat)
  (shiftK (IntKind.u64.wrap (32 - (IntKind.u64.wrap (BitVec.ofInt (IntKind.bits .u64) (IntKind.u64.wrap k1) &&& BitVec.ofInt (IntKind.bits .u64) 31).toNat)))
  (R (.int .u32 (IntKind.u32.wrap (BitVec.ofInt (IntKind.bits .u32) (IntKind.u32.wrap (x0 * 2 ^ min (Int.toNat (IntKind.u64.wrap (BitVec.ofInt (IntKind.bits .u64) (IntKind.u64.wrap k1) &&& BitVec.ofInt (IntKind.bits .u64) 31).toNat)) (IntKind.bits .u32))) ||| BitVec.ofInt (IntKind.bits .u32) (Int.fdiv x0 (2 ^ min (Int.toNat (IntKind.u64.wrap (32 - (IntKind.u64.wrap (BitVec.ofInt (IntKind.bits .u64) (IntKind.u64.wrap k1) &&& BitVec.ofInt (IntKind.bits .u64) 31).toNat)))) (IntKind.bits .u32)))).toNat)) h))
def math_bits_RotateLeft32.ann : Ann := (.seq .leaf (.seq .leaf (.seq .leaf .leaf)))
theorem math_bits_RotateLeft32.eq (x0 : Int) (k1 : Int) (R : Value → Heap → Prop) (h : Heap) : math_bits_RotateLeft32.body x0 k1 R h = evFn Try.prog Try.f38 math_bits_RotateLeft32.ann [(.int .u32 x0), (.int .i64 k1)] R h := by kernel_rfl
theorem math_bits_RotateLeft32.calls {x0 : Int} {k1 : Int} {R : Value → Heap → Prop} {h : Heap} (H : math_bits_RotateLeft32.body x0 k1 R h) : HC Try.prog F.math_bits_RotateLeft32 #[(.int .u32 x0), (.int .i64 k1)] R h :=
  evFn_sound mixed Try.func38 (by kernel_rfl) (math_bits_RotateLeft32.eq x0 k1 R h ▸ H)

/-! zugzwang/bits.Turn -/
def bits_Turn.body (x0 : Int) (n1 : Int) (R : Value → Heap → Prop) (h : Heap) : Prop :=
  divK 32
  (callK Try.prog (.int .u32) F.math_bits_RotateLeft32 #[(.int .u32 x0), (.int .i64 (IntKind.i64.wrap (0 - (Int.tmod n1 32))))] (fun (v_1 : Int) (h : Heap) =>
  R (.int .u32 v_1) h) h)
def bits_Turn.ann : Ann := (.seq .leaf (.seq .leaf .leaf))
theorem bits_Turn.eq (x0 : Int) (n1 : Int) (R : Value → Heap → Prop) (h : Heap) : bits_Turn.body x0 n1 R h = evFn Try.prog Try.f11 bits_Turn.ann [(.int .u32 x0), (.int .i64 n1)] R h := by kernel_rfl
theorem bits_Turn.calls {x0 : Int} {n1 : Int} {R : Value → Heap → Prop} {h : Heap} (H : bits_Turn.body x0 n1 R h) : HC Try.prog F.bits_Turn #[(.int .u32 x0), (.int .i64 n1)] R h :=
  evFn_sound mixed Try.func11 (by kernel_rfl) (bits_Turn.eq x0 n1 R h ▸ H)

/-! zugzwang/bits.Most -/
def bits_Most.body (words0 : Sl) (R : Value → Heap → Prop) (h : Heap) : Prop :=
  loopW (fun X_2 (s_1 : Int × Int) (h : Heap) =>
  if (decide (s_1.2 < 32)) = true then
  loopW (fun X_4 (s_3 : Int × Int) (h : Heap) =>
  if (decide (s_3.2 < ((words0.n : Int)))) = true then
  idxK words0 s_3.2 (sizeOfT Try.prog T.uint32) (fun (a_5 : Addr) =>
  loadK (.int .u32) h ((some a_5)) (fun (v_6 : Int) =>
  shiftK s_1.2
  (X_4 (IntKind.i64.wrap (s_3.1 + (IntKind.i64.wrap (IntKind.u32.wrap (BitVec.ofInt (IntKind.bits .u32) (Int.fdiv v_6 (2 ^ min (Int.toNat s_1.2) (IntKind.bits .u32))) &&& BitVec.ofInt (IntKind.bits .u32) 1).toNat))), IntKind.i64.wrap (s_3.2 + 1)) h)))
  else
  if (decide ((IntKind.i64.wrap (2 * s_3.1)) > ((words0.n : Int)))) = true then
  shiftK s_1.2
  (X_2 (IntKind.u32.wrap (BitVec.ofInt (IntKind.bits .u32) s_1.1 ||| BitVec.ofInt (IntKind.bits .u32) (IntKind.u32.wrap (1 * 2 ^ min (Int.toNat s_1.2) (IntKind.bits .u32)))).toNat, IntKind.i64.wrap (s_1.2 + 1)) h)
  else
  X_2 (s_1.1, IntKind.i64.wrap (s_1.2 + 1)) h) (0, 0) h
  else
  R (.int .u32 s_1.1) h) (0, 0) h
def bits_Most.ann : Ann := (.seq .leaf (.seq (.seq .leaf (.block (.loop [(2, (.int .u32)), (7, (.int .i64))] (.seq .leaf (.seq (.cond .leaf .leaf) (.seq (.block (.seq .leaf (.seq .leaf (.seq (.seq .leaf (.block (.loop [(4, (.int .i64)), (12, (.int .i64))] (.seq .leaf (.seq (.cond .leaf .leaf) (.seq (.block (.seq .leaf .leaf)) .leaf)))))) (.seq .leaf (.cond .leaf .leaf)))))) .leaf)))))) (.seq .leaf .leaf)))
theorem bits_Most.eq (words0 : Sl) (R : Value → Heap → Prop) (h : Heap) : bits_Most.body words0 R h = evFn Try.prog Try.f21 bits_Most.ann [(.slice words0.a words0.n words0.c)] R h := by kernel_rfl
theorem bits_Most.calls {words0 : Sl} {R : Value → Heap → Prop} {h : Heap} (H : bits_Most.body words0 R h) : HC Try.prog F.bits_Most #[(.slice words0.a words0.n words0.c)] R h :=
  evFn_sound mixed Try.func21 (by kernel_rfl) (bits_Most.eq words0 R h ▸ H)

/-! (*zugzwang/bits.row).put -/
def bits_row_put.body (r0 : Option Addr) (w1 : Int) (R : Value → Heap → Prop) (h : Heap) : Prop :=
  derefK r0 (fun (a_1 : Addr) =>
  fldK ((some a_1)) 0 (fun (a_2 : Addr) =>
  loadK .slice h ((some a_2)) (fun (v_3 : Sl) =>
  shiftK 24
  (shiftK 16
  (shiftK 8
  (newSlK h 4 #[(.int .u8 (IntKind.u8.wrap (Int.fdiv w1 (2 ^ min (Int.toNat 24) (IntKind.bits .u32))))), (.int .u8 (IntKind.u8.wrap (Int.fdiv w1 (2 ^ min (Int.toNat 16) (IntKind.bits .u32))))), (.int .u8 (IntKind.u8.wrap (Int.fdiv w1 (2 ^ min (Int.toNat 8) (IntKind.bits .u32))))), (.int .u8 (IntKind.u8.wrap w1))] T.uint8 (fun (v_4 : Sl) (h : Heap) =>
  opK Try.prog .slice (Builtin.append_ #[T.sl_uint8, T.sl_uint8] T.sl_uint8 #[(.slice v_3.a v_3.n v_3.c), (.slice v_4.a v_4.n v_4.c)]) (fun (v_5 : Sl) (h : Heap) =>
  derefK r0 (fun (a_6 : Addr) =>
  fldK ((some a_6)) 0 (fun (a_7 : Addr) =>
  storeK h ((some a_7)) (.slice v_5.a v_5.n v_5.c) (fun (h : Heap) =>
  R (.tuple #[]) h)))) h)))))))
def bits_row_put.ann : Ann := .leaf
theorem bits_row_put.eq (r0 : Option Addr) (w1 : Int) (R : Value → Heap → Prop) (h : Heap) : bits_row_put.body r0 w1 R h = evFn Try.prog Try.f43 bits_row_put.ann [(.pointer r0), (.int .u32 w1)] R h := by kernel_rfl
theorem bits_row_put.calls {r0 : Option Addr} {w1 : Int} {R : Value → Heap → Prop} {h : Heap} (H : bits_row_put.body r0 w1 R h) : HC Try.prog F.bits_row_put #[(.pointer r0), (.int .u32 w1)] R h :=
  evFn_sound mixed Try.func43 (by kernel_rfl) (bits_row_put.eq r0 w1 R h ▸ H)

/-! zugzwang/bits.Bytes -/
def bits_Bytes.body (words0 : Sl) (R : Value → Heap → Prop) (h : Heap) : Prop :=
  newK h (zerosOf Try.prog T.bits_reader) T.bits_reader (fun (r_1 : Option Addr) (h : Heap) =>
  loopW (fun X_3 (s_2 : Int) (h : Heap) =>
  if (decide (s_2 < ((words0.n : Int)))) = true then
  idxK words0 s_2 (sizeOfT Try.prog T.uint32) (fun (a_4 : Addr) =>
  loadK (.int .u32) h ((some a_4)) (fun (v_5 : Int) =>
  fldK r_1 0 (fun (a_6 : Addr) =>
  callK Try.prog .unit F.bits_row_put #[(.pointer ((some a_6))), (.int .u32 v_5)] (fun (v_7 : Unit) (h : Heap) =>
  X_3 (IntKind.i64.wrap (s_2 + 1)) h) h)))
  else
  fldK r_1 0 (fun (a_8 : Addr) =>
  fldK ((some a_8)) 0 (fun (a_9 : Addr) =>
  loadK .slice h ((some a_9)) (fun (v_10 : Sl) =>
  R (.slice v_10.a v_10.n v_10.c) h)))) 0 h)
def bits_Bytes.ann : Ann := (.seq .leaf (.seq .leaf (.seq (.seq .leaf (.block (.loop [(8, (.int .i64))] (.seq .leaf (.seq (.cond .leaf .leaf) (.seq (.block (.seq .leaf .leaf)) .leaf)))))) (.seq .leaf .leaf))))
theorem bits_Bytes.eq (words0 : Sl) (R : Value → Heap → Prop) (h : Heap) : bits_Bytes.body words0 R h = evFn Try.prog Try.f27 bits_Bytes.ann [(.slice words0.a words0.n words0.c)] R h := by kernel_rfl
theorem bits_Bytes.calls {words0 : Sl} {R : Value → Heap → Prop} {h : Heap} (H : bits_Bytes.body words0 R h) : HC Try.prog F.bits_Bytes #[(.slice words0.a words0.n words0.c)] R h :=
  evFn_sound mixed Try.func27 (by kernel_rfl) (bits_Bytes.eq words0 R h ▸ H)

/-! zugzwang/zugzwangkit.SameBytes -/
def kit_SameBytes.body (a0 : Sl) (b1 : Sl) (R : Value → Heap → Prop) (h : Heap) : Prop :=
  if (((a0.n : Int)) != ((b1.n : Int))) = true then
  R (.bool false) h
  else
  loopW (fun X_2 (s_1 : Int) (h : Heap) =>
  if (decide (s_1 < ((a0.n : Int)))) = true then
  idxK a0 s_1 (sizeOfT Try.prog T.uint8) (fun (a_3 : Addr) =>
  loadK (.int .u8) h ((some a_3)) (fun (v_4 : Int) =>
  idxK b1 s_1 (sizeOfT Try.prog T.uint8) (fun (a_5 : Addr) =>
  loadK (.int .u8) h ((some a_5)) (fun (v_6 : Int) =>
  if (v_4 != v_6) = true then
  R (.bool false) h
  else
  X_2 (IntKind.i64.wrap (s_1 + 1)) h))))
  else
  R (.bool true) h) 0 h
def kit_SameBytes.ann : Ann := (.seq .leaf (.seq (.seq .leaf (.cond (.seq .leaf .leaf) .leaf)) (.seq (.seq .leaf (.block (.loop [(5, (.int .i64))] (.seq (.seq .leaf (.cond .leaf .leaf)) (.seq (.block (.seq .leaf (.cond (.seq .leaf .leaf) .leaf))) .leaf))))) (.seq .leaf .leaf))))
theorem kit_SameBytes.eq (a0 : Sl) (b1 : Sl) (R : Value → Heap → Prop) (h : Heap) : kit_SameBytes.body a0 b1 R h = evFn Try.prog Try.f30 kit_SameBytes.ann [(.slice a0.a a0.n a0.c), (.slice b1.a b1.n b1.c)] R h := by kernel_rfl
theorem kit_SameBytes.calls {a0 : Sl} {b1 : Sl} {R : Value → Heap → Prop} {h : Heap} (H : kit_SameBytes.body a0 b1 R h) : HC Try.prog F.kit_SameBytes #[(.slice a0.a a0.n a0.c), (.slice b1.a b1.n b1.c)] R h :=
  evFn_sound mixed Try.func30 (by kernel_rfl) (kit_SameBytes.eq a0 b1 R h ▸ H)

/-! zugzwang/zugzwanglaw01.awake -/
def law01_awake.body  (R : Value → Heap → Prop) (h : Heap) : Prop :=
  callK Try.prog (.int .u32) F.bits_Turn #[(.int .u32 1), (.int .i64 1)] (fun (v_1 : Int) (h : Heap) =>
  if (v_1 == 2147483648) = true then
  newSlK h 3 #[(.int .u32 1), (.int .u32 3), (.int .u32 2)] T.uint32 (fun (v_2 : Sl) (h : Heap) =>
  callK Try.prog (.int .u32) F.bits_Most #[(.slice v_2.a v_2.n v_2.c)] (fun (v_3 : Int) (h : Heap) =>
  if (v_3 == 3) = true then
  newSlK h 1 #[(.int .u32 258)] T.uint32 (fun (v_4 : Sl) (h : Heap) =>
  callK Try.prog .slice F.bits_Bytes #[(.slice v_4.a v_4.n v_4.c)] (fun (v_5 : Sl) (h : Heap) =>
  newSlK h 4 #[(.int .u8 0), (.int .u8 0), (.int .u8 1), (.int .u8 2)] T.uint8 (fun (v_6 : Sl) (h : Heap) =>
  callK Try.prog .bool F.kit_SameBytes #[(.slice v_5.a v_5.n v_5.c), (.slice v_6.a v_6.n v_6.c)] (fun (v_7 : Bool) (h : Heap) =>
  R (.bool v_7) h) h)) h)
  else
  R (.bool false) h) h)
  else
  R (.bool false) h) h
def law01_awake.ann : Ann := (.seq .leaf (.seq .leaf .leaf))
theorem law01_awake.eq  (R : Value → Heap → Prop) (h : Heap) : law01_awake.body  R h = evFn Try.prog Try.f9 law01_awake.ann [] R h := by kernel_rfl
theorem law01_awake.calls  {R : Value → Heap → Prop} {h : Heap} (H : law01_awake.body  R h) : HC Try.prog F.law01_awake #[] R h :=
  evFn_sound mixed Try.func9 (by kernel_rfl) (law01_awake.eq  R h ▸ H)

/-! zugzwang/zugzwangkit.mark -/
def kit_mark.body (k0 : Int) (i1 : Int) (R : Value → Heap → Prop) (h : Heap) : Prop :=
  R (.int .i64 (IntKind.i64.wrap ((IntKind.i64.wrap (1000003 * (IntKind.i64.wrap (k0 + 7)))) + i1))) h
def kit_mark.ann : Ann := (.seq .leaf (.seq .leaf .leaf))
theorem kit_mark.eq (k0 : Int) (i1 : Int) (R : Value → Heap → Prop) (h : Heap) : kit_mark.body k0 i1 R h = evFn Try.prog Try.f37 kit_mark.ann [(.int .i64 k0), (.int .i64 i1)] R h := by kernel_rfl
theorem kit_mark.calls {k0 : Int} {i1 : Int} {R : Value → Heap → Prop} {h : Heap} (H : kit_mark.body k0 i1 R h) : HC Try.prog F.kit_mark #[(.int .i64 k0), (.int .i64 i1)] R h :=
  evFn_sound mixed Try.func37 (by kernel_rfl) (kit_mark.eq k0 i1 R h ▸ H)

/-! zugzwang/zugzwangkit.LentInts -/
def kit_LentInts.body (l0 : Sl) (R : Value → Heap → Prop) (h : Heap) : Prop :=
  opK Try.prog .slice (Instr.makeSlice T.sl_int (.int .i64 0) (.int .i64 (IntKind.i64.wrap (((l0.n : Int)) + 12)))) (fun (v_1 : Sl) (h : Heap) =>
  opK Try.prog .slice (Builtin.append_ #[T.sl_int, T.sl_int] T.sl_int #[(.slice v_1.a v_1.n v_1.c), (.slice l0.a l0.n l0.c)]) (fun (v_2 : Sl) (h : Heap) =>
  loopW (fun X_4 (s_3 : Sl × Int) (h : Heap) =>
  if (decide (s_3.2 < 12)) = true then
  callK Try.prog (.int .i64) F.kit_mark #[(.int .i64 1), (.int .i64 s_3.2)] (fun (v_5 : Int) (h : Heap) =>
  newSlK h 1 #[(.int .i64 v_5)] T.int (fun (v_6 : Sl) (h : Heap) =>
  opK Try.prog .slice (Builtin.append_ #[T.sl_int, T.sl_int] T.sl_int #[(.slice s_3.1.a s_3.1.n s_3.1.c), (.slice v_6.a v_6.n v_6.c)]) (fun (v_7 : Sl) (h : Heap) =>
  X_4 (v_7, IntKind.i64.wrap (s_3.2 + 1)) h) h)) h
  else
  sliceK s_3.1 none (some ((l0.n : Int))) none (sizeOfT Try.prog T.int) (fun (v_8 : Sl) =>
  R (.slice v_8.a v_8.n v_8.c) h)) (v_2, 0) h) h) h
def kit_LentInts.ann : Ann := (.seq .leaf (.seq .leaf (.seq .leaf (.seq (.seq .leaf (.block (.loop [(3, .slice), (4, (.int .i64))] (.seq (.seq .leaf (.cond .leaf .leaf)) (.seq (.block .leaf) .leaf))))) (.seq .leaf .leaf)))))
theorem kit_LentInts.eq (l0 : Sl) (R : Value → Heap → Prop) (h : Heap) : kit_LentInts.body l0 R h = evFn Try.prog Try.f10 kit_LentInts.ann [(.slice l0.a l0.n l0.c)] R h := by kernel_rfl
theorem kit_LentInts.calls {l0 : Sl} {R : Value → Heap → Prop} {h : Heap} (H : kit_LentInts.body l0 R h) : HC Try.prog F.kit_LentInts #[(.slice l0.a l0.n l0.c)] R h :=
  evFn_sound mixed Try.func10 (by kernel_rfl) (kit_LentInts.eq l0 R h ▸ H)

/-! zugzwang/zugzwangref01.place -/
def ref01_place.body (k0 : Int) (one1 : Bool) (R : Value → Heap → Prop) (h : Heap) : Prop :=
  if one1 = true then
  shiftK k0
  (R (.int .u32 (IntKind.u32.wrap (1 * 2 ^ min (Int.toNat k0) (IntKind.bits .u32)))) h)
  else
  R (.int .u32 0) h
def ref01_place.ann : Ann := (.seq .leaf (.seq (.seq .leaf (.cond (.seq .leaf .leaf) .leaf)) (.seq .leaf .leaf)))
theorem ref01_place.eq (k0 : Int) (one1 : Bool) (R : Value → Heap → Prop) (h : Heap) : ref01_place.body k0 one1 R h = evFn Try.prog Try.f39 ref01_place.ann [(.int .i64 k0), (.bool one1)] R h := by kernel_rfl
theorem ref01_place.calls {k0 : Int} {one1 : Bool} {R : Value → Heap → Prop} {h : Heap} (H : ref01_place.body k0 one1 R h) : HC Try.prog F.ref01_place #[(.int .i64 k0), (.bool one1)] R h :=
  evFn_sound mixed Try.func39 (by kernel_rfl) (ref01_place.eq k0 one1 R h ▸ H)

/-! zugzwang/zugzwangref01.bit -/
def ref01_bit.body (x0 : Int) (k1 : Int) (R : Value → Heap → Prop) (h : Heap) : Prop :=
  shiftK k1
  (divK 2
  (R (.bool ((Int.tmod (Int.fdiv x0 (2 ^ min (Int.toNat k1) (IntKind.bits .u32))) 2) == 1)) h))
def ref01_bit.ann : Ann := (.seq .leaf (.seq .leaf .leaf))
theorem ref01_bit.eq (x0 : Int) (k1 : Int) (R : Value → Heap → Prop) (h : Heap) : ref01_bit.body x0 k1 R h = evFn Try.prog Try.f40 ref01_bit.ann [(.int .u32 x0), (.int .i64 k1)] R h := by kernel_rfl
theorem ref01_bit.calls {x0 : Int} {k1 : Int} {R : Value → Heap → Prop} {h : Heap} (H : ref01_bit.body x0 k1 R h) : HC Try.prog F.ref01_bit #[(.int .u32 x0), (.int .i64 k1)] R h :=
  evFn_sound mixed Try.func40 (by kernel_rfl) (ref01_bit.eq x0 k1 R h ▸ H)

/-! zugzwang/zugzwangref01.low -/
def ref01_low.body (n0 : Int) (R : Value → Heap → Prop) (h : Heap) : Prop :=
  divK 32
  (if (decide ((Int.tmod n0 32) < 0)) = true then
  R (.int .i64 (IntKind.i64.wrap ((Int.tmod n0 32) + 32))) h
  else
  R (.int .i64 (Int.tmod n0 32)) h)
def ref01_low.ann : Ann := (.seq .leaf (.seq .leaf (.seq (.seq .leaf (.cond .leaf .leaf)) (.seq .leaf .leaf))))
theorem ref01_low.eq (n0 : Int) (R : Value → Heap → Prop) (h : Heap) : ref01_low.body n0 R h = evFn Try.prog Try.f41 ref01_low.ann [(.int .i64 n0)] R h := by kernel_rfl
theorem ref01_low.calls {n0 : Int} {R : Value → Heap → Prop} {h : Heap} (H : ref01_low.body n0 R h) : HC Try.prog F.ref01_low #[(.int .i64 n0)] R h :=
  evFn_sound mixed Try.func41 (by kernel_rfl) (ref01_low.eq n0 R h ▸ H)

/-! zugzwang/zugzwangref01.Turn -/
def ref01_Turn.body (x0 : Int) (n1 : Int) (R : Value → Heap → Prop) (h : Heap) : Prop :=
  loopW (fun X_2 (s_1 : Int × Int) (h : Heap) =>
  if (decide (s_1.2 < 32)) = true then
  callK Try.prog (.int .i64) F.ref01_low #[(.int .i64 n1)] (fun (v_3 : Int) (h : Heap) =>
  divK 32
  (callK Try.prog .bool F.ref01_bit #[(.int .u32 x0), (.int .i64 (Int.tmod (IntKind.i64.wrap (s_1.2 + v_3)) 32))] (fun (v_4 : Bool) (h : Heap) =>
  callK Try.prog (.int .u32) F.ref01_place #[(.int .i64 s_1.2), (.bool v_4)] (fun (v_5 : Int) (h : Heap) =>
  X_2 (IntKind.u32.wrap (s_1.1 + v_5), IntKind.i64.wrap (s_1.2 + 1)) h) h) h)) h
  else
  R (.int .u32 s_1.1) h) (0, 0) h
def ref01_Turn.ann : Ann := (.seq .leaf (.seq .leaf (.seq (.seq .leaf (.block (.loop [(5, (.int .u32)), (6, (.int .i64))] (.seq (.seq .leaf (.cond .leaf .leaf)) (.seq (.block .leaf) .leaf))))) (.seq .leaf .leaf))))
theorem ref01_Turn.eq (x0 : Int) (n1 : Int) (R : Value → Heap → Prop) (h : Heap) : ref01_Turn.body x0 n1 R h = evFn Try.prog Try.f12 ref01_Turn.ann [(.int .u32 x0), (.int .i64 n1)] R h := by kernel_rfl
theorem ref01_Turn.calls {x0 : Int} {n1 : Int} {R : Value → Heap → Prop} {h : Heap} (H : ref01_Turn.body x0 n1 R h) : HC Try.prog F.ref01_Turn #[(.int .u32 x0), (.int .i64 n1)] R h :=
  evFn_sound mixed Try.func12 (by kernel_rfl) (ref01_Turn.eq x0 n1 R h ▸ H)

/-! zugzwang/bits.Mix -/
def bits_Mix.body (x0 : Int) (turns1 : Sl) (R : Value → Heap → Prop) (h : Heap) : Prop :=
  loopW (fun X_2 (s_1 : Int × Int) (h : Heap) =>
  if (decide (s_1.2 < ((turns1.n : Int)))) = true then
  idxK turns1 s_1.2 (sizeOfT Try.prog T.int) (fun (a_3 : Addr) =>
  loadK (.int .i64) h ((some a_3)) (fun (v_4 : Int) =>
  callK Try.prog (.int .u32) F.bits_Turn #[(.int .u32 x0), (.int .i64 v_4)] (fun (v_5 : Int) (h : Heap) =>
  X_2 (IntKind.u32.wrap (BitVec.ofInt (IntKind.bits .u32) s_1.1 ^^^ BitVec.ofInt (IntKind.bits .u32) v_5).toNat, IntKind.i64.wrap (s_1.2 + 1)) h) h))
  else
  R (.int .u32 s_1.1) h) (0, 0) h
def bits_Mix.ann : Ann := (.seq .leaf (.seq (.seq .leaf (.block (.loop [(4, (.int .u32)), (9, (.int .i64))] (.seq .leaf (.seq (.cond .leaf .leaf) (.seq (.block (.seq .leaf .leaf)) .leaf)))))) (.seq .leaf .leaf)))
theorem bits_Mix.eq (x0 : Int) (turns1 : Sl) (R : Value → Heap → Prop) (h : Heap) : bits_Mix.body x0 turns1 R h = evFn Try.prog Try.f13 bits_Mix.ann [(.int .u32 x0), (.slice turns1.a turns1.n turns1.c)] R h := by kernel_rfl
theorem bits_Mix.calls {x0 : Int} {turns1 : Sl} {R : Value → Heap → Prop} {h : Heap} (H : bits_Mix.body x0 turns1 R h) : HC Try.prog F.bits_Mix #[(.int .u32 x0), (.slice turns1.a turns1.n turns1.c)] R h :=
  evFn_sound mixed Try.func13 (by kernel_rfl) (bits_Mix.eq x0 turns1 R h ▸ H)

/-! zugzwang/zugzwangref01.Mix -/
def ref01_Mix.body (x0 : Int) (turns1 : Sl) (R : Value → Heap → Prop) (h : Heap) : Prop :=
  loopW (fun X_2 (s_1 : Int × Int) (h : Heap) =>
  if (decide (s_1.2 < 32)) = true then
  loopW (fun X_4 (s_3 : Bool × Int) (h : Heap) =>
  if (decide (s_3.2 < ((turns1.n : Int)))) = true then
  idxK turns1 s_3.2 (sizeOfT Try.prog T.int) (fun (a_5 : Addr) =>
  loadK (.int .i64) h ((some a_5)) (fun (v_6 : Int) =>
  callK Try.prog (.int .i64) F.ref01_low #[(.int .i64 v_6)] (fun (v_7 : Int) (h : Heap) =>
  divK 32
  (callK Try.prog .bool F.ref01_bit #[(.int .u32 x0), (.int .i64 (Int.tmod (IntKind.i64.wrap (s_1.2 + v_7)) 32))] (fun (v_8 : Bool) (h : Heap) =>
  if v_8 = true then
  X_4 (!s_3.1, IntKind.i64.wrap (s_3.2 + 1)) h
  else
  X_4 (s_3.1, IntKind.i64.wrap (s_3.2 + 1)) h) h)) h))
  else
  callK Try.prog (.int .u32) F.ref01_place #[(.int .i64 s_1.2), (.bool s_3.1)] (fun (v_9 : Int) (h : Heap) =>
  X_2 (IntKind.u32.wrap (s_1.1 + v_9), IntKind.i64.wrap (s_1.2 + 1)) h) h) (false, 0) h
  else
  R (.int .u32 s_1.1) h) (0, 0) h
def ref01_Mix.ann : Ann := (.seq .leaf (.seq .leaf (.seq (.seq .leaf (.block (.loop [(5, (.int .u32)), (6, (.int .i64))] (.seq (.seq .leaf (.cond .leaf .leaf)) (.seq (.block (.seq .leaf (.seq (.seq .leaf (.block (.loop [(7, .bool), (8, (.int .i64))] (.seq (.seq .leaf (.cond .leaf .leaf)) (.seq (.block (.seq .leaf (.cond .leaf .leaf))) .leaf))))) .leaf))) .leaf))))) (.seq .leaf .leaf))))
theorem ref01_Mix.eq (x0 : Int) (turns1 : Sl) (R : Value → Heap → Prop) (h : Heap) : ref01_Mix.body x0 turns1 R h = evFn Try.prog Try.f14 ref01_Mix.ann [(.int .u32 x0), (.slice turns1.a turns1.n turns1.c)] R h := by kernel_rfl
theorem ref01_Mix.calls {x0 : Int} {turns1 : Sl} {R : Value → Heap → Prop} {h : Heap} (H : ref01_Mix.body x0 turns1 R h) : HC Try.prog F.ref01_Mix #[(.int .u32 x0), (.slice turns1.a turns1.n turns1.c)] R h :=
  evFn_sound mixed Try.func14 (by kernel_rfl) (ref01_Mix.eq x0 turns1 R h ▸ H)

/-! zugzwang/bits.Shift -/
def bits_Shift.body (x0 : Int) (n1 : Int) (R : Value → Heap → Prop) (h : Heap) : Prop :=
  shiftK (if n1 < 0 then 0 else n1)
  (R (.int .u32 (Int.fdiv x0 (2 ^ min (Int.toNat (if n1 < 0 then 0 else n1)) (IntKind.bits .u32)))) h)
def bits_Shift.ann : Ann := (.seq .leaf (.seq .leaf .leaf))
theorem bits_Shift.eq (x0 : Int) (n1 : Int) (R : Value → Heap → Prop) (h : Heap) : bits_Shift.body x0 n1 R h = evFn Try.prog Try.f15 bits_Shift.ann [(.int .u32 x0), (.int .i64 n1)] R h := by kernel_rfl
theorem bits_Shift.calls {x0 : Int} {n1 : Int} {R : Value → Heap → Prop} {h : Heap} (H : bits_Shift.body x0 n1 R h) : HC Try.prog F.bits_Shift #[(.int .u32 x0), (.int .i64 n1)] R h :=
  evFn_sound mixed Try.func15 (by kernel_rfl) (bits_Shift.eq x0 n1 R h ▸ H)

/-! zugzwang/zugzwangref01.Shift -/
def ref01_Shift.body (x0 : Int) (n1 : Int) (R : Value → Heap → Prop) (h : Heap) : Prop :=
  if (decide (n1 < 0)) = true then
  R (.int .u32 x0) h
  else
  loopW (fun X_2 (s_1 : Int × Int) (h : Heap) =>
  if (decide (s_1.2 < 32)) = true then
  if (decide (n1 < (IntKind.i64.wrap (32 - s_1.2)))) = true then
  callK Try.prog .bool F.ref01_bit #[(.int .u32 x0), (.int .i64 (IntKind.i64.wrap (s_1.2 + n1)))] (fun (v_3 : Bool) (h : Heap) =>
  callK Try.prog (.int .u32) F.ref01_place #[(.int .i64 s_1.2), (.bool v_3)] (fun (v_4 : Int) (h : Heap) =>
  X_2 (IntKind.u32.wrap (s_1.1 + v_4), IntKind.i64.wrap (s_1.2 + 1)) h) h) h
  else
  callK Try.prog (.int .u32) F.ref01_place #[(.int .i64 s_1.2), (.bool false)] (fun (v_5 : Int) (h : Heap) =>
  X_2 (IntKind.u32.wrap (s_1.1 + v_5), IntKind.i64.wrap (s_1.2 + 1)) h) h
  else
  R (.int .u32 s_1.1) h) (0, 0) h
def ref01_Shift.ann : Ann := (.seq .leaf (.seq (.seq .leaf (.cond (.seq .leaf .leaf) .leaf)) (.seq .leaf (.seq (.seq .leaf (.block (.loop [(5, (.int .u32)), (6, (.int .i64))] (.seq (.seq .leaf (.cond .leaf .leaf)) (.seq (.block .leaf) .leaf))))) (.seq .leaf .leaf)))))
theorem ref01_Shift.eq (x0 : Int) (n1 : Int) (R : Value → Heap → Prop) (h : Heap) : ref01_Shift.body x0 n1 R h = evFn Try.prog Try.f16 ref01_Shift.ann [(.int .u32 x0), (.int .i64 n1)] R h := by kernel_rfl
theorem ref01_Shift.calls {x0 : Int} {n1 : Int} {R : Value → Heap → Prop} {h : Heap} (H : ref01_Shift.body x0 n1 R h) : HC Try.prog F.ref01_Shift #[(.int .u32 x0), (.int .i64 n1)] R h :=
  evFn_sound mixed Try.func16 (by kernel_rfl) (ref01_Shift.eq x0 n1 R h ▸ H)

/-! zugzwang/zugzwangkit.KeptInts -/
def kit_KeptInts.body (out0 : Sl) (l1 : Sl) (R : Value → Heap → Prop) (h : Heap) : Prop :=
  if (((out0.n : Int)) != ((l1.n : Int))) = true then
  R (.bool false) h
  else
  sliceK out0 none (some (IntKind.i64.wrap (((l1.n : Int)) + 12))) none (sizeOfT Try.prog T.int) (fun (v_1 : Sl) =>
  loopW (fun X_3 (s_2 : Int) (h : Heap) =>
  if (decide (s_2 < ((v_1.n : Int)))) = true then
  if (decide (s_2 < ((l1.n : Int)))) = true then
  idxK v_1 s_2 (sizeOfT Try.prog T.int) (fun (a_4 : Addr) =>
  loadK (.int .i64) h ((some a_4)) (fun (v_5 : Int) =>
  idxK l1 s_2 (sizeOfT Try.prog T.int) (fun (a_6 : Addr) =>
  loadK (.int .i64) h ((some a_6)) (fun (v_7 : Int) =>
  if (!(v_5 == v_7)) = true then
  R (.bool false) h
  else
  if (decide (s_2 ≥ ((l1.n : Int)))) = true then
  idxK v_1 s_2 (sizeOfT Try.prog T.int) (fun (a_8 : Addr) =>
  loadK (.int .i64) h ((some a_8)) (fun (v_9 : Int) =>
  callQ Try.prog (.int .i64) F.kit_mark #[(.int .i64 1), (.int .i64 (IntKind.i64.wrap (s_2 - ((l1.n : Int)))))] (fun (v_10 : Int) =>
  if (!(v_9 == v_10)) = true then
  R (.bool false) h
  else
  X_3 (IntKind.i64.wrap (s_2 + 1)) h) h))
  else
  X_3 (IntKind.i64.wrap (s_2 + 1)) h))))
  else
  if (decide (s_2 ≥ ((l1.n : Int)))) = true then
  idxK v_1 s_2 (sizeOfT Try.prog T.int) (fun (a_11 : Addr) =>
  loadK (.int .i64) h ((some a_11)) (fun (v_12 : Int) =>
  callQ Try.prog (.int .i64) F.kit_mark #[(.int .i64 1), (.int .i64 (IntKind.i64.wrap (s_2 - ((l1.n : Int)))))] (fun (v_13 : Int) =>
  if (!(v_12 == v_13)) = true then
  R (.bool false) h
  else
  X_3 (IntKind.i64.wrap (s_2 + 1)) h) h))
  else
  X_3 (IntKind.i64.wrap (s_2 + 1)) h
  else
  R (.bool true) h) 0 h)
def kit_KeptInts.ann : Ann := (.seq .leaf (.seq (.seq .leaf (.cond (.seq .leaf .leaf) .leaf)) (.seq .leaf (.seq (.seq .leaf (.block (.loop [(6, (.int .i64))] (.seq (.seq .leaf (.cond .leaf .leaf)) (.seq (.block (.seq .leaf (.cond (.seq .leaf .leaf) .leaf))) .leaf))))) (.seq .leaf .leaf)))))
theorem kit_KeptInts.eq (out0 : Sl) (l1 : Sl) (R : Value → Heap → Prop) (h : Heap) : kit_KeptInts.body out0 l1 R h = evFn Try.prog Try.f17 kit_KeptInts.ann [(.slice out0.a out0.n out0.c), (.slice l1.a l1.n l1.c)] R h := by kernel_rfl
theorem kit_KeptInts.calls {out0 : Sl} {l1 : Sl} {R : Value → Heap → Prop} {h : Heap} (H : kit_KeptInts.body out0 l1 R h) : HC Try.prog F.kit_KeptInts #[(.slice out0.a out0.n out0.c), (.slice l1.a l1.n l1.c)] R h :=
  evFn_sound mixed Try.func17 (by kernel_rfl) (kit_KeptInts.eq out0 l1 R h ▸ H)

/-! zugzwang/zugzwanglaw01.BitsTurns -/
def law01_BitsTurns.body (x0 : Int) (n1 : Int) (turns2 : Sl) (R : Value → Heap → Prop) (h : Heap) : Prop :=
  if (decide (((turns2.n : Int)) > 1000)) = true then
  callK Try.prog .bool F.law01_awake #[] (fun (v_1 : Bool) (h : Heap) =>
  R (.bool v_1) h) h
  else
  callK Try.prog .slice F.kit_LentInts #[(.slice turns2.a turns2.n turns2.c)] (fun (v_2 : Sl) (h : Heap) =>
  callK Try.prog (.int .u32) F.bits_Turn #[(.int .u32 x0), (.int .i64 n1)] (fun (v_3 : Int) (h : Heap) =>
  callK Try.prog (.int .u32) F.ref01_Turn #[(.int .u32 x0), (.int .i64 n1)] (fun (v_4 : Int) (h : Heap) =>
  if (v_3 == v_4) = true then
  callK Try.prog (.int .u32) F.bits_Mix #[(.int .u32 x0), (.slice v_2.a v_2.n v_2.c)] (fun (v_5 : Int) (h : Heap) =>
  callK Try.prog (.int .u32) F.ref01_Mix #[(.int .u32 x0), (.slice turns2.a turns2.n turns2.c)] (fun (v_6 : Int) (h : Heap) =>
  if (v_5 == v_6) = true then
  callK Try.prog (.int .u32) F.bits_Shift #[(.int .u32 x0), (.int .i64 n1)] (fun (v_7 : Int) (h : Heap) =>
  callK Try.prog (.int .u32) F.ref01_Shift #[(.int .u32 x0), (.int .i64 n1)] (fun (v_8 : Int) (h : Heap) =>
  if (v_7 == v_8) = true then
  callK Try.prog .bool F.kit_KeptInts #[(.slice v_2.a v_2.n v_2.c), (.slice turns2.a turns2.n turns2.c)] (fun (v_9 : Bool) (h : Heap) =>
  if v_9 = true then
  callK Try.prog .bool F.law01_awake #[] (fun (v_10 : Bool) (h : Heap) =>
  R (.bool v_10) h) h
  else
  R (.bool false) h) h
  else
  R (.bool false) h) h) h
  else
  R (.bool false) h) h) h
  else
  R (.bool false) h) h) h) h
def law01_BitsTurns.ann : Ann := (.seq .leaf (.seq (.seq .leaf (.cond (.seq .leaf .leaf) .leaf)) (.seq .leaf (.seq .leaf .leaf))))
theorem law01_BitsTurns.eq (x0 : Int) (n1 : Int) (turns2 : Sl) (R : Value → Heap → Prop) (h : Heap) : law01_BitsTurns.body x0 n1 turns2 R h = evFn Try.prog Try.f3 law01_BitsTurns.ann [(.int .u32 x0), (.int .i64 n1), (.slice turns2.a turns2.n turns2.c)] R h := by kernel_rfl
theorem law01_BitsTurns.calls {x0 : Int} {n1 : Int} {turns2 : Sl} {R : Value → Heap → Prop} {h : Heap} (H : law01_BitsTurns.body x0 n1 turns2 R h) : HC Try.prog F.law01_BitsTurns #[(.int .u32 x0), (.int .i64 n1), (.slice turns2.a turns2.n turns2.c)] R h :=
  evFn_sound mixed Try.func3 (by kernel_rfl) (law01_BitsTurns.eq x0 n1 turns2 R h ▸ H)

/-! slices.Clone[[]byte,byte] -/
def slices_Clone_byte_byte.body (s0 : Sl) (R : Value → Heap → Prop) (h : Heap) : Prop :=
  if s0.a.isNone = true then
  R (.slice none 0 0) h
  else
  newSlK h 0 #[] T.uint8 (fun (v_1 : Sl) (h : Heap) =>
  opK Try.prog .slice (Builtin.append_ #[T.sl_uint8, T.sl_uint8] T.sl_uint8 #[(.slice v_1.a v_1.n v_1.c), (.slice s0.a s0.n s0.c)]) (fun (v_2 : Sl) (h : Heap) =>
  R (.slice v_2.a v_2.n v_2.c) h) h)
def slices_Clone_byte_byte.ann : Ann := (.seq .leaf (.seq (.seq .leaf (.cond (.seq .leaf .leaf) .leaf)) (.seq .leaf .leaf)))
theorem slices_Clone_byte_byte.eq (s0 : Sl) (R : Value → Heap → Prop) (h : Heap) : slices_Clone_byte_byte.body s0 R h = evFn Try.prog Try.f44 slices_Clone_byte_byte.ann [(.slice s0.a s0.n s0.c)] R h := by kernel_rfl
theorem slices_Clone_byte_byte.calls {s0 : Sl} {R : Value → Heap → Prop} {h : Heap} (H : slices_Clone_byte_byte.body s0 R h) : HC Try.prog F.slices_Clone_byte_byte #[(.slice s0.a s0.n s0.c)] R h :=
  evFn_sound mixed Try.func44 (by kernel_rfl) (slices_Clone_byte_byte.eq s0 R h ▸ H)

/-! (*zugzwang/bits.row).take -/
def bits_row_take.body (r0 : Option Addr) (R : Value → Heap → Prop) (h : Heap) : Prop :=
  derefK r0 (fun (a_1 : Addr) =>
  fldK ((some a_1)) 0 (fun (a_2 : Addr) =>
  loadK .slice h ((some a_2)) (fun (v_3 : Sl) =>
  idxK v_3 0 (sizeOfT Try.prog T.uint8) (fun (a_4 : Addr) =>
  loadK (.int .u8) h ((some a_4)) (fun (v_5 : Int) =>
  shiftK 24
  (derefK r0 (fun (a_6 : Addr) =>
  fldK ((some a_6)) 0 (fun (a_7 : Addr) =>
  loadK .slice h ((some a_7)) (fun (v_8 : Sl) =>
  idxK v_8 1 (sizeOfT Try.prog T.uint8) (fun (a_9 : Addr) =>
  loadK (.int .u8) h ((some a_9)) (fun (v_10 : Int) =>
  shiftK 16
  (derefK r0 (fun (a_11 : Addr) =>
  fldK ((some a_11)) 0 (fun (a_12 : Addr) =>
  loadK .slice h ((some a_12)) (fun (v_13 : Sl) =>
  idxK v_13 2 (sizeOfT Try.prog T.uint8) (fun (a_14 : Addr) =>
  loadK (.int .u8) h ((some a_14)) (fun (v_15 : Int) =>
  shiftK 8
  (derefK r0 (fun (a_16 : Addr) =>
  fldK ((some a_16)) 0 (fun (a_17 : Addr) =>
  loadK .slice h ((some a_17)) (fun (v_18 : Sl) =>
  idxK v_18 3 (sizeOfT Try.prog T.uint8) (fun (a_19 : Addr) =>
  loadK (.int .u8) h ((some a_19)) (fun (v_20 : Int) =>
  derefK r0 (fun (a_21 : Addr) =>
  fldK ((some a_21)) 0 (fun (a_22 : Addr) =>
  loadK .slice h ((some a_22)) (fun (v_23 : Sl) =>
  sliceK v_23 (some 4) none none (sizeOfT Try.prog T.uint8) (fun (v_24 : Sl) =>
  derefK r0 (fun (a_25 : Addr) =>
  fldK ((some a_25)) 0 (fun (a_26 : Addr) =>
  storeK h ((some a_26)) (.slice v_24.a v_24.n v_24.c) (fun (h : Heap) =>
  R (.int .u32 (IntKind.u32.wrap (BitVec.ofInt (IntKind.bits .u32) (IntKind.u32.wrap (BitVec.ofInt (IntKind.bits .u32) (IntKind.u32.wrap (BitVec.ofInt (IntKind.bits .u32) (IntKind.u32.wrap ((IntKind.u32.wrap v_5) * 2 ^ min (Int.toNat 24) (IntKind.bits .u32))) ||| BitVec.ofInt (IntKind.bits .u32) (IntKind.u32.wrap ((IntKind.u32.wrap v_10) * 2 ^ min (Int.toNat 16) (IntKind.bits .u32)))).toNat) ||| BitVec.ofInt (IntKind.bits .u32) (IntKind.u32.wrap ((IntKind.u32.wrap v_15) * 2 ^ min (Int.toNat 8) (IntKind.bits .u32)))).toNat) ||| BitVec.ofInt (IntKind.bits .u32) (IntKind.u32.wrap v_20)).toNat)) h))))))))))))))))))))))))))))))
def bits_row_take.ann : Ann := (.seq .leaf (.seq .leaf (.seq .leaf (.seq .leaf .leaf))))
theorem bits_row_take.eq (r0 : Option Addr) (R : Value → Heap → Prop) (h : Heap) : bits_row_take.body r0 R h = evFn Try.prog Try.f45 bits_row_take.ann [(.pointer r0)] R h := by kernel_rfl
theorem bits_row_take.calls {r0 : Option Addr} {R : Value → Heap → Prop} {h : Heap} (H : bits_row_take.body r0 R h) : HC Try.prog F.bits_row_take #[(.pointer r0)] R h :=
  evFn_sound mixed Try.func45 (by kernel_rfl) (bits_row_take.eq r0 R h ▸ H)

/-! zugzwang/bits.Words -/
def bits_Words.body (b0 : Sl) (R : Value → Heap → Prop) (h : Heap) : Prop :=
  divK 4
  (if ((Int.tmod ((b0.n : Int)) 4) != 0) = true then
  R (.tuple #[(.slice none 0 0), (.int .i64 4)]) h
  else
  callK Try.prog .slice F.slices_Clone_byte_byte #[(.slice b0.a b0.n b0.c)] (fun (v_1 : Sl) (h : Heap) =>
  quietK Try.prog .agg (Instr.build T.bits_row #[(0, (.slice v_1.a v_1.n v_1.c))]) (fun (v_2 : Array Value) =>
  quietK Try.prog .agg (Instr.build T.bits_reader #[(0, (.agg v_2))]) (fun (v_3 : Array Value) =>
  newK h (zerosOf Try.prog T.bits_reader) T.bits_reader (fun (r_4 : Option Addr) (h : Heap) =>
  storeAggK (sizeOfT Try.prog T.bits_reader) h r_4 v_3 (fun (h : Heap) =>
  divK 4
  (loopW (fun X_6 (s_5 : Int) (h : Heap) =>
  if (decide (s_5 < (IntKind.i64.wrap (Int.tdiv ((b0.n : Int)) 4)))) = true then
  fldK r_4 1 (fun (a_7 : Addr) =>
  fldK r_4 0 (fun (a_8 : Addr) =>
  ((loadK .slice h ((some a_7)) (fun (v_9 : Sl) =>
  callK Try.prog (.int .u32) F.bits_row_take #[(.pointer ((some a_8)))] (fun (v_10 : Int) (h : Heap) =>
  newSlK h 1 #[(.int .u32 v_10)] T.uint32 (fun (v_11 : Sl) (h : Heap) =>
  opK Try.prog .slice (Builtin.append_ #[T.sl_uint32, T.sl_uint32] T.sl_uint32 #[(.slice v_9.a v_9.n v_9.c), (.slice v_11.a v_11.n v_11.c)]) (fun (v_12 : Sl) (h : Heap) =>
  fldK r_4 1 (fun (a_13 : Addr) =>
  storeK h ((some a_13)) (.slice v_12.a v_12.n v_12.c) (fun (h : Heap) =>
  X_6 (IntKind.i64.wrap (s_5 + 1)) h))) h)) h)) ∧
  (callK Try.prog (.int .u32) F.bits_row_take #[(.pointer ((some a_8)))] (fun (v_14 : Int) (h : Heap) =>
  loadK .slice h ((some a_7)) (fun (v_15 : Sl) =>
  newSlK h 1 #[(.int .u32 v_14)] T.uint32 (fun (v_16 : Sl) (h : Heap) =>
  opK Try.prog .slice (Builtin.append_ #[T.sl_uint32, T.sl_uint32] T.sl_uint32 #[(.slice v_15.a v_15.n v_15.c), (.slice v_16.a v_16.n v_16.c)]) (fun (v_17 : Sl) (h : Heap) =>
  fldK r_4 1 (fun (a_18 : Addr) =>
  storeK h ((some a_18)) (.slice v_17.a v_17.n v_17.c) (fun (h : Heap) =>
  X_6 (IntKind.i64.wrap (s_5 + 1)) h))) h))) h))))
  else
  fldK r_4 1 (fun (a_19 : Addr) =>
  loadK .slice h ((some a_19)) (fun (v_20 : Sl) =>
  R (.tuple #[(.slice v_20.a v_20.n v_20.c), (.int .i64 0)]) h))) 0 h)))) h) h) h)
def bits_Words.ann : Ann := (.seq .leaf (.seq (.seq .leaf (.cond (.seq .leaf .leaf) .leaf)) (.seq .leaf (.seq (.seq .leaf (.block (.loop [(16, (.int .i64))] (.seq .leaf (.seq (.cond .leaf .leaf) (.seq (.block (.any (.loc 0 (.loc 2 (.alt 1 (.last 3 (.last 4 (.last 5 (.loc 6 (.last 7 .done))))) (.last 3 (.rd 1 224 (.last 4 (.last 5 (.loc 6 (.last 7 .done))))))))))) .leaf)))))) (.seq .leaf .leaf)))))
theorem bits_Words.eq (b0 : Sl) (R : Value → Heap → Prop) (h : Heap) : bits_Words.body b0 R h = evFn Try.prog Try.f28 bits_Words.ann [(.slice b0.a b0.n b0.c)] R h := by kernel_rfl
theorem bits_Words.calls {b0 : Sl} {R : Value → Heap → Prop} {h : Heap} (H : bits_Words.body b0 R h) : HC Try.prog F.bits_Words #[(.slice b0.a b0.n b0.c)] R h :=
  evFn_sound mixed Try.func28 (by kernel_rfl) (bits_Words.eq b0 R h ▸ H)

/-! zugzwang/zugzwangkit.SameLimbs -/
def kit_SameLimbs.body (a0 : Sl) (b1 : Sl) (R : Value → Heap → Prop) (h : Heap) : Prop :=
  if (((a0.n : Int)) != ((b1.n : Int))) = true then
  R (.bool false) h
  else
  loopW (fun X_2 (s_1 : Int) (h : Heap) =>
  if (decide (s_1 < ((a0.n : Int)))) = true then
  idxK a0 s_1 (sizeOfT Try.prog T.uint32) (fun (a_3 : Addr) =>
  loadK (.int .u32) h ((some a_3)) (fun (v_4 : Int) =>
  idxK b1 s_1 (sizeOfT Try.prog T.uint32) (fun (a_5 : Addr) =>
  loadK (.int .u32) h ((some a_5)) (fun (v_6 : Int) =>
  if (v_4 != v_6) = true then
  R (.bool false) h
  else
  X_2 (IntKind.i64.wrap (s_1 + 1)) h))))
  else
  R (.bool true) h) 0 h
def kit_SameLimbs.ann : Ann := (.seq .leaf (.seq (.seq .leaf (.cond (.seq .leaf .leaf) .leaf)) (.seq (.seq .leaf (.block (.loop [(5, (.int .i64))] (.seq (.seq .leaf (.cond .leaf .leaf)) (.seq (.block (.seq .leaf (.cond (.seq .leaf .leaf) .leaf))) .leaf))))) (.seq .leaf .leaf))))
theorem kit_SameLimbs.eq (a0 : Sl) (b1 : Sl) (R : Value → Heap → Prop) (h : Heap) : kit_SameLimbs.body a0 b1 R h = evFn Try.prog Try.f32 kit_SameLimbs.ann [(.slice a0.a a0.n a0.c), (.slice b1.a b1.n b1.c)] R h := by kernel_rfl
theorem kit_SameLimbs.calls {a0 : Sl} {b1 : Sl} {R : Value → Heap → Prop} {h : Heap} (H : kit_SameLimbs.body a0 b1 R h) : HC Try.prog F.kit_SameLimbs #[(.slice a0.a a0.n a0.c), (.slice b1.a b1.n b1.c)] R h :=
  evFn_sound mixed Try.func32 (by kernel_rfl) (kit_SameLimbs.eq a0 b1 R h ▸ H)

/-! zugzwang/zugzwangkit.Pick -/
def kit_Pick.body (x0 : Int) (n1 : Int) (R : Value → Heap → Prop) (h : Heap) : Prop :=
  if (decide (n1 < 1)) = true then
  R (.int .i64 0) h
  else
  divK n1
  (if (decide ((Int.tmod x0 n1) < 0)) = true then
  R (.int .i64 (IntKind.i64.wrap ((Int.tmod x0 n1) + n1))) h
  else
  R (.int .i64 (Int.tmod x0 n1)) h)
def kit_Pick.ann : Ann := (.seq .leaf (.seq (.seq .leaf (.cond (.seq .leaf .leaf) .leaf)) (.seq .leaf (.seq (.seq .leaf (.cond .leaf .leaf)) (.seq .leaf .leaf)))))
theorem kit_Pick.eq (x0 : Int) (n1 : Int) (R : Value → Heap → Prop) (h : Heap) : kit_Pick.body x0 n1 R h = evFn Try.prog Try.f36 kit_Pick.ann [(.int .i64 x0), (.int .i64 n1)] R h := by kernel_rfl
theorem kit_Pick.calls {x0 : Int} {n1 : Int} {R : Value → Heap → Prop} {h : Heap} (H : kit_Pick.body x0 n1 R h) : HC Try.prog F.kit_Pick #[(.int .i64 x0), (.int .i64 n1)] R h :=
  evFn_sound mixed Try.func36 (by kernel_rfl) (kit_Pick.eq x0 n1 R h ▸ H)

/-! zugzwang/zugzwanglaw01.BitsBack -/
def law01_BitsBack.body (x0 : Int) (n1 : Int) (m2 : Int) (words3 : Sl) (b4 : Sl) (R : Value → Heap → Prop) (h : Heap) : Prop :=
  callK Try.prog .bool F.law01_awake #[] (fun (v_1 : Bool) (h : Heap) =>
  if (!v_1) = true then
  R (.bool false) h
  else
  if (decide ((IntKind.i64.wrap (((words3.n : Int)) + ((b4.n : Int)))) > 1000)) = true then
  R (.bool true) h
  else
  callK Try.prog (.int .i64) F.kit_Pick #[(.int .i64 n1), (.int .i64 32)] (fun (v_2 : Int) (h : Heap) =>
  callK Try.prog (.int .i64) F.kit_Pick #[(.int .i64 m2), (.int .i64 32)] (fun (v_3 : Int) (h : Heap) =>
  callK Try.prog (.int .u32) F.bits_Turn #[(.int .u32 x0), (.int .i64 v_2)] (fun (v_4 : Int) (h : Heap) =>
  callK Try.prog (.int .u32) F.bits_Turn #[(.int .u32 v_4), (.int .i64 (IntKind.i64.wrap (0 - v_2)))] (fun (v_5 : Int) (h : Heap) =>
  if (v_5 != x0) = true then
  R (.bool false) h
  else
  callK Try.prog (.int .u32) F.bits_Turn #[(.int .u32 x0), (.int .i64 v_2)] (fun (v_6 : Int) (h : Heap) =>
  callK Try.prog (.int .u32) F.bits_Turn #[(.int .u32 v_6), (.int .i64 v_3)] (fun (v_7 : Int) (h : Heap) =>
  callK Try.prog (.int .u32) F.bits_Turn #[(.int .u32 x0), (.int .i64 (IntKind.i64.wrap (v_2 + v_3)))] (fun (v_8 : Int) (h : Heap) =>
  if (v_7 != v_8) = true then
  R (.bool false) h
  else
  callK Try.prog (.int .u32) F.bits_Turn #[(.int .u32 x0), (.int .i64 v_2)] (fun (v_9 : Int) (h : Heap) =>
  callK Try.prog (.int .u32) F.bits_Turn #[(.int .u32 x0), (.int .i64 (IntKind.i64.wrap (v_2 - 32)))] (fun (v_10 : Int) (h : Heap) =>
  if (v_9 != v_10) = true then
  R (.bool false) h
  else
  callK Try.prog .slice F.bits_Bytes #[(.slice words3.a words3.n words3.c)] (fun (v_11 : Sl) (h : Heap) =>
  callK Try.prog (Kd.pair .slice (.int .i64)) F.bits_Words #[(.slice v_11.a v_11.n v_11.c)] (fun (v_12 : Sl × Int) (h : Heap) =>
  if (v_12.2 != 0) = true then
  R (.bool false) h
  else
  callK Try.prog .bool F.kit_SameLimbs #[(.slice v_12.1.a v_12.1.n v_12.1.c), (.slice words3.a words3.n words3.c)] (fun (v_13 : Bool) (h : Heap) =>
  if (!v_13) = true then
  R (.bool false) h
  else
  callK Try.prog (Kd.pair .slice (.int .i64)) F.bits_Words #[(.slice b4.a b4.n b4.c)] (fun (v_14 : Sl × Int) (h : Heap) =>
  if (v_14.2 == 4) = true then
  divK 4
  (if ((Int.tmod ((b4.n : Int)) 4) != 0) = true then
  R (.bool true) h
  else
  if (v_14.2 == 0) = true then
  if (((b4.n : Int)) == (IntKind.i64.wrap (4 * ((v_14.1.n : Int))))) = true then
  callK Try.prog .slice F.bits_Bytes #[(.slice v_14.1.a v_14.1.n v_14.1.c)] (fun (v_15 : Sl) (h : Heap) =>
  callK Try.prog .bool F.kit_SameBytes #[(.slice v_15.a v_15.n v_15.c), (.slice b4.a b4.n b4.c)] (fun (v_16 : Bool) (h : Heap) =>
  R (.bool v_16) h) h) h
  else
  R (.bool false) h
  else
  R (.bool false) h)
  else
  if (v_14.2 == 0) = true then
  if (((b4.n : Int)) == (IntKind.i64.wrap (4 * ((v_14.1.n : Int))))) = true then
  callK Try.prog .slice F.bits_Bytes #[(.slice v_14.1.a v_14.1.n v_14.1.c)] (fun (v_17 : Sl) (h : Heap) =>
  callK Try.prog .bool F.kit_SameBytes #[(.slice v_17.a v_17.n v_17.c), (.slice b4.a b4.n b4.c)] (fun (v_18 : Bool) (h : Heap) =>
  R (.bool v_18) h) h) h
  else
  R (.bool false) h
  else
  R (.bool false) h) h) h) h) h) h) h) h) h) h) h) h) h) h) h
def law01_BitsBack.ann : Ann := (.seq .leaf (.seq (.seq .leaf (.cond (.seq .leaf .leaf) .leaf)) (.seq (.seq .leaf (.cond (.seq .leaf .leaf) .leaf)) (.seq .leaf (.seq (.seq .leaf (.cond (.seq .leaf .leaf) .leaf)) (.seq .leaf (.seq (.seq .leaf (.cond (.seq .leaf .leaf) .leaf)) (.seq .leaf (.seq .leaf .leaf)))))))))
theorem law01_BitsBack.eq (x0 : Int) (n1 : Int) (m2 : Int) (words3 : Sl) (b4 : Sl) (R : Value → Heap → Prop) (h : Heap) : law01_BitsBack.body x0 n1 m2 words3 b4 R h = evFn Try.prog Try.f7 law01_BitsBack.ann [(.int .u32 x0), (.int .i64 n1), (.int .i64 m2), (.slice words3.a words3.n words3.c), (.slice b4.a b4.n b4.c)] R h := by kernel_rfl
theorem law01_BitsBack.calls {x0 : Int} {n1 : Int} {m2 : Int} {words3 : Sl} {b4 : Sl} {R : Value → Heap → Prop} {h : Heap} (H : law01_BitsBack.body x0 n1 m2 words3 b4 R h) : HC Try.prog F.law01_BitsBack #[(.int .u32 x0), (.int .i64 n1), (.int .i64 m2), (.slice words3.a words3.n words3.c), (.slice b4.a b4.n b4.c)] R h :=
  evFn_sound mixed Try.func7 (by kernel_rfl) (law01_BitsBack.eq x0 n1 m2 words3 b4 R h ▸ H)

/-! zugzwang/zugzwangkit.LentLimbs -/
def kit_LentLimbs.body (l0 : Sl) (R : Value → Heap → Prop) (h : Heap) : Prop :=
  opK Try.prog .slice (Instr.makeSlice T.sl_uint32 (.int .i64 0) (.int .i64 (IntKind.i64.wrap (((l0.n : Int)) + 12)))) (fun (v_1 : Sl) (h : Heap) =>
  opK Try.prog .slice (Builtin.append_ #[T.sl_uint32, T.sl_uint32] T.sl_uint32 #[(.slice v_1.a v_1.n v_1.c), (.slice l0.a l0.n l0.c)]) (fun (v_2 : Sl) (h : Heap) =>
  loopW (fun X_4 (s_3 : Sl × Int) (h : Heap) =>
  if (decide (s_3.2 < 12)) = true then
  callK Try.prog (.int .i64) F.kit_mark #[(.int .i64 1), (.int .i64 s_3.2)] (fun (v_5 : Int) (h : Heap) =>
  newSlK h 1 #[(.int .u32 (IntKind.u32.wrap v_5))] T.uint32 (fun (v_6 : Sl) (h : Heap) =>
  opK Try.prog .slice (Builtin.append_ #[T.sl_uint32, T.sl_uint32] T.sl_uint32 #[(.slice s_3.1.a s_3.1.n s_3.1.c), (.slice v_6.a v_6.n v_6.c)]) (fun (v_7 : Sl) (h : Heap) =>
  X_4 (v_7, IntKind.i64.wrap (s_3.2 + 1)) h) h)) h
  else
  sliceK s_3.1 none (some ((l0.n : Int))) none (sizeOfT Try.prog T.uint32) (fun (v_8 : Sl) =>
  R (.slice v_8.a v_8.n v_8.c) h)) (v_2, 0) h) h) h
def kit_LentLimbs.ann : Ann := (.seq .leaf (.seq .leaf (.seq .leaf (.seq (.seq .leaf (.block (.loop [(3, .slice), (4, (.int .i64))] (.seq (.seq .leaf (.cond .leaf .leaf)) (.seq (.block .leaf) .leaf))))) (.seq .leaf .leaf)))))
theorem kit_LentLimbs.eq (l0 : Sl) (R : Value → Heap → Prop) (h : Heap) : kit_LentLimbs.body l0 R h = evFn Try.prog Try.f18 kit_LentLimbs.ann [(.slice l0.a l0.n l0.c)] R h := by kernel_rfl
theorem kit_LentLimbs.calls {l0 : Sl} {R : Value → Heap → Prop} {h : Heap} (H : kit_LentLimbs.body l0 R h) : HC Try.prog F.kit_LentLimbs #[(.slice l0.a l0.n l0.c)] R h :=
  evFn_sound mixed Try.func18 (by kernel_rfl) (kit_LentLimbs.eq l0 R h ▸ H)

/-! zugzwang/zugzwangkit.KeptLimbs -/
def kit_KeptLimbs.body (out0 : Sl) (l1 : Sl) (R : Value → Heap → Prop) (h : Heap) : Prop :=
  if (((out0.n : Int)) != ((l1.n : Int))) = true then
  R (.bool false) h
  else
  sliceK out0 none (some (IntKind.i64.wrap (((l1.n : Int)) + 12))) none (sizeOfT Try.prog T.uint32) (fun (v_1 : Sl) =>
  loopW (fun X_3 (s_2 : Int) (h : Heap) =>
  if (decide (s_2 < ((v_1.n : Int)))) = true then
  if (decide (s_2 < ((l1.n : Int)))) = true then
  idxK v_1 s_2 (sizeOfT Try.prog T.uint32) (fun (a_4 : Addr) =>
  loadK (.int .u32) h ((some a_4)) (fun (v_5 : Int) =>
  idxK l1 s_2 (sizeOfT Try.prog T.uint32) (fun (a_6 : Addr) =>
  loadK (.int .u32) h ((some a_6)) (fun (v_7 : Int) =>
  if (!(v_5 == v_7)) = true then
  R (.bool false) h
  else
  if (decide (s_2 ≥ ((l1.n : Int)))) = true then
  idxK v_1 s_2 (sizeOfT Try.prog T.uint32) (fun (a_8 : Addr) =>
  loadK (.int .u32) h ((some a_8)) (fun (v_9 : Int) =>
  callQ Try.prog (.int .i64) F.kit_mark #[(.int .i64 1), (.int .i64 (IntKind.i64.wrap (s_2 - ((l1.n : Int)))))] (fun (v_10 : Int) =>
  if (!(v_9 == (IntKind.u32.wrap v_10))) = true then
  R (.bool false) h
  else
  X_3 (IntKind.i64.wrap (s_2 + 1)) h) h))
  else
  X_3 (IntKind.i64.wrap (s_2 + 1)) h))))
  else
  if (decide (s_2 ≥ ((l1.n : Int)))) = true then
  idxK v_1 s_2 (sizeOfT Try.prog T.uint32) (fun (a_11 : Addr) =>
  loadK (.int .u32) h ((some a_11)) (fun (v_12 : Int) =>
  callQ Try.prog (.int .i64) F.kit_mark #[(.int .i64 1), (.int .i64 (IntKind.i64.wrap (s_2 - ((l1.n : Int)))))] (fun (v_13 : Int) =>
  if (!(v_12 == (IntKind.u32.wrap v_13))) = true then
  R (.bool false) h
  else
  X_3 (IntKind.i64.wrap (s_2 + 1)) h) h))
  else
  X_3 (IntKind.i64.wrap (s_2 + 1)) h
  else
  R (.bool true) h) 0 h)
def kit_KeptLimbs.ann : Ann := (.seq .leaf (.seq (.seq .leaf (.cond (.seq .leaf .leaf) .leaf)) (.seq .leaf (.seq (.seq .leaf (.block (.loop [(6, (.int .i64))] (.seq (.seq .leaf (.cond .leaf .leaf)) (.seq (.block (.seq .leaf (.cond (.seq .leaf .leaf) .leaf))) .leaf))))) (.seq .leaf .leaf)))))
theorem kit_KeptLimbs.eq (out0 : Sl) (l1 : Sl) (R : Value → Heap → Prop) (h : Heap) : kit_KeptLimbs.body out0 l1 R h = evFn Try.prog Try.f25 kit_KeptLimbs.ann [(.slice out0.a out0.n out0.c), (.slice l1.a l1.n l1.c)] R h := by kernel_rfl
theorem kit_KeptLimbs.calls {out0 : Sl} {l1 : Sl} {R : Value → Heap → Prop} {h : Heap} (H : kit_KeptLimbs.body out0 l1 R h) : HC Try.prog F.kit_KeptLimbs #[(.slice out0.a out0.n out0.c), (.slice l1.a l1.n l1.c)] R h :=
  evFn_sound mixed Try.func25 (by kernel_rfl) (kit_KeptLimbs.eq out0 l1 R h ▸ H)

/-! zugzwang/zugzwangkit.markByte -/
def kit_markByte.body (k0 : Int) (i1 : Int) (R : Value → Heap → Prop) (h : Heap) : Prop :=
  callK Try.prog (.int .i64) F.kit_mark #[(.int .i64 k0), (.int .i64 i1)] (fun (v_1 : Int) (h : Heap) =>
  shiftK 56
  (R (.int .u8 (IntKind.u8.wrap (Int.fdiv (IntKind.u64.wrap ((IntKind.u64.wrap v_1) * 11400714819323198485)) (2 ^ min (Int.toNat 56) (IntKind.bits .u64))))) h)) h
def kit_markByte.ann : Ann := (.seq .leaf (.seq .leaf .leaf))
theorem kit_markByte.eq (k0 : Int) (i1 : Int) (R : Value → Heap → Prop) (h : Heap) : kit_markByte.body k0 i1 R h = evFn Try.prog Try.f42 kit_markByte.ann [(.int .i64 k0), (.int .i64 i1)] R h := by kernel_rfl
theorem kit_markByte.calls {k0 : Int} {i1 : Int} {R : Value → Heap → Prop} {h : Heap} (H : kit_markByte.body k0 i1 R h) : HC Try.prog F.kit_markByte #[(.int .i64 k0), (.int .i64 i1)] R h :=
  evFn_sound mixed Try.func42 (by kernel_rfl) (kit_markByte.eq k0 i1 R h ▸ H)

/-! zugzwang/zugzwangkit.LentBytes -/
def kit_LentBytes.body (l0 : Sl) (R : Value → Heap → Prop) (h : Heap) : Prop :=
  opK Try.prog .slice (Instr.makeSlice T.sl_uint8 (.int .i64 0) (.int .i64 (IntKind.i64.wrap (((l0.n : Int)) + 12)))) (fun (v_1 : Sl) (h : Heap) =>
  opK Try.prog .slice (Builtin.append_ #[T.sl_uint8, T.sl_uint8] T.sl_uint8 #[(.slice v_1.a v_1.n v_1.c), (.slice l0.a l0.n l0.c)]) (fun (v_2 : Sl) (h : Heap) =>
  loopW (fun X_4 (s_3 : Sl × Int) (h : Heap) =>
  if (decide (s_3.2 < 12)) = true then
  callK Try.prog (.int .u8) F.kit_markByte #[(.int .i64 1), (.int .i64 s_3.2)] (fun (v_5 : Int) (h : Heap) =>
  newSlK h 1 #[(.int .u8 v_5)] T.uint8 (fun (v_6 : Sl) (h : Heap) =>
  opK Try.prog .slice (Builtin.append_ #[T.sl_uint8, T.sl_uint8] T.sl_uint8 #[(.slice s_3.1.a s_3.1.n s_3.1.c), (.slice v_6.a v_6.n v_6.c)]) (fun (v_7 : Sl) (h : Heap) =>
  X_4 (v_7, IntKind.i64.wrap (s_3.2 + 1)) h) h)) h
  else
  sliceK s_3.1 none (some ((l0.n : Int))) none (sizeOfT Try.prog T.uint8) (fun (v_8 : Sl) =>
  R (.slice v_8.a v_8.n v_8.c) h)) (v_2, 0) h) h) h
def kit_LentBytes.ann : Ann := (.seq .leaf (.seq .leaf (.seq .leaf (.seq (.seq .leaf (.block (.loop [(3, .slice), (4, (.int .i64))] (.seq (.seq .leaf (.cond .leaf .leaf)) (.seq (.block .leaf) .leaf))))) (.seq .leaf .leaf)))))
theorem kit_LentBytes.eq (l0 : Sl) (R : Value → Heap → Prop) (h : Heap) : kit_LentBytes.body l0 R h = evFn Try.prog Try.f26 kit_LentBytes.ann [(.slice l0.a l0.n l0.c)] R h := by kernel_rfl
theorem kit_LentBytes.calls {l0 : Sl} {R : Value → Heap → Prop} {h : Heap} (H : kit_LentBytes.body l0 R h) : HC Try.prog F.kit_LentBytes #[(.slice l0.a l0.n l0.c)] R h :=
  evFn_sound mixed Try.func26 (by kernel_rfl) (kit_LentBytes.eq l0 R h ▸ H)

/-! zugzwang/zugzwangref01.Words -/
def ref01_Words.body (b0 : Sl) (R : Value → Heap → Prop) (h : Heap) : Prop :=
  divK 4
  (if ((Int.tmod ((b0.n : Int)) 4) != 0) = true then
  R (.tuple #[(.slice none 0 0), (.int .i64 4)]) h
  else
  loopW (fun X_2 (s_1 : Sl × Int) (h : Heap) =>
  if (decide (s_1.2 < ((b0.n : Int)))) = true then
  idxK b0 s_1.2 (sizeOfT Try.prog T.uint8) (fun (a_3 : Addr) =>
  idxK b0 (IntKind.i64.wrap (s_1.2 + 1)) (sizeOfT Try.prog T.uint8) (fun (a_4 : Addr) =>
  idxK b0 (IntKind.i64.wrap (s_1.2 + 2)) (sizeOfT Try.prog T.uint8) (fun (a_5 : Addr) =>
  idxK b0 (IntKind.i64.wrap (s_1.2 + 3)) (sizeOfT Try.prog T.uint8) (fun (a_6 : Addr) =>
  loadK (.int .u8) h ((some a_3)) (fun (v_7 : Int) =>
  loadK (.int .u8) h ((some a_4)) (fun (v_8 : Int) =>
  loadK (.int .u8) h ((some a_5)) (fun (v_9 : Int) =>
  loadK (.int .u8) h ((some a_6)) (fun (v_10 : Int) =>
  newSlK h 1 #[(.int .u32 (IntKind.u32.wrap ((IntKind.u32.wrap ((IntKind.u32.wrap ((IntKind.u32.wrap ((IntKind.u32.wrap v_7) * 16777216)) + (IntKind.u32.wrap ((IntKind.u32.wrap v_8) * 65536)))) + (IntKind.u32.wrap ((IntKind.u32.wrap v_9) * 256)))) + (IntKind.u32.wrap v_10))))] T.uint32 (fun (v_11 : Sl) (h : Heap) =>
  opK Try.prog .slice (Builtin.append_ #[T.sl_uint32, T.sl_uint32] T.sl_uint32 #[(.slice s_1.1.a s_1.1.n s_1.1.c), (.slice v_11.a v_11.n v_11.c)]) (fun (v_12 : Sl) (h : Heap) =>
  X_2 (v_12, IntKind.i64.wrap (s_1.2 + 4)) h) h)))))))))
  else
  R (.tuple #[(.slice s_1.1.a s_1.1.n s_1.1.c), (.int .i64 0)]) h) (⟨none, 0, 0⟩, 0) h)
def ref01_Words.ann : Ann := (.seq .leaf (.seq (.seq .leaf (.cond (.seq .leaf .leaf) .leaf)) (.seq .leaf (.seq (.seq .leaf (.block (.loop [(4, .slice), (5, (.int .i64))] (.seq (.seq .leaf (.cond .leaf .leaf)) (.seq (.block (.any (.loc 0 (.loc 1 (.loc 2 (.loc 3 (.loc 7 (.loc 8 (.loc 9 (.loc 10 (.loc 15 (.loc 16 (.loc 17 (.loc 18 (.loc 23 (.loc 24 (.loc 25 (.loc 26 (.rd 4 8057274464 (.loc 5 (.loc 6 (.rd 11 8057286656 (.loc 12 (.loc 13 (.loc 14 (.rd 19 8060403712 (.loc 20 (.loc 21 (.loc 22 (.rd 27 8321499136 (.loc 28 (.loc 29 (.last 30 (.last 31 (.loc 32 .done))))))))))))))))))))))))))))))))))) .leaf))))) (.seq .leaf .leaf)))))
theorem ref01_Words.eq (b0 : Sl) (R : Value → Heap → Prop) (h : Heap) : ref01_Words.body b0 R h = evFn Try.prog Try.f29 ref01_Words.ann [(.slice b0.a b0.n b0.c)] R h := by kernel_rfl
theorem ref01_Words.calls {b0 : Sl} {R : Value → Heap → Prop} {h : Heap} (H : ref01_Words.body b0 R h) : HC Try.prog F.ref01_Words #[(.slice b0.a b0.n b0.c)] R h :=
  evFn_sound mixed Try.func29 (by kernel_rfl) (ref01_Words.eq b0 R h ▸ H)

/-! zugzwang/zugzwangref01.Bytes -/
def ref01_Bytes.body (words0 : Sl) (R : Value → Heap → Prop) (h : Heap) : Prop :=
  loopW (fun X_2 (s_1 : Sl × Int) (h : Heap) =>
  if (decide (s_1.2 < ((words0.n : Int)))) = true then
  loopW (fun X_4 (s_3 : Sl × Int) (h : Heap) =>
  if (decide (s_3.2 ≥ 0)) = true then
  idxK words0 s_1.2 (sizeOfT Try.prog T.uint32) (fun (a_5 : Addr) =>
  loadK (.int .u32) h ((some a_5)) (fun (v_6 : Int) =>
  shiftK (IntKind.i64.wrap (8 * s_3.2))
  (divK 256
  (newSlK h 1 #[(.int .u8 (IntKind.u8.wrap (Int.tmod (Int.fdiv v_6 (2 ^ min (Int.toNat (IntKind.i64.wrap (8 * s_3.2))) (IntKind.bits .u32))) 256)))] T.uint8 (fun (v_7 : Sl) (h : Heap) =>
  opK Try.prog .slice (Builtin.append_ #[T.sl_uint8, T.sl_uint8] T.sl_uint8 #[(.slice s_3.1.a s_3.1.n s_3.1.c), (.slice v_7.a v_7.n v_7.c)]) (fun (v_8 : Sl) (h : Heap) =>
  X_4 (v_8, IntKind.i64.wrap (s_3.2 - 1)) h) h)))))
  else
  X_2 (s_3.1, IntKind.i64.wrap (s_1.2 + 1)) h) (s_1.1, 3) h
  else
  R (.slice s_1.1.a s_1.1.n s_1.1.c) h) (⟨none, 0, 0⟩, 0) h
def ref01_Bytes.ann : Ann := (.seq .leaf (.seq .leaf (.seq (.seq .leaf (.block (.loop [(3, .slice), (4, (.int .i64))] (.seq (.seq .leaf (.cond .leaf .leaf)) (.seq (.block (.seq .leaf (.block (.loop [(3, .slice), (5, (.int .i64))] (.seq (.seq .leaf (.cond .leaf .leaf)) (.seq (.block .leaf) .leaf)))))) .leaf))))) (.seq .leaf .leaf))))
theorem ref01_Bytes.eq (words0 : Sl) (R : Value → Heap → Prop) (h : Heap) : ref01_Bytes.body words0 R h = evFn Try.prog Try.f31 ref01_Bytes.ann [(.slice words0.a words0.n words0.c)] R h := by kernel_rfl
theorem ref01_Bytes.calls {words0 : Sl} {R : Value → Heap → Prop} {h : Heap} (H : ref01_Bytes.body words0 R h) : HC Try.prog F.ref01_Bytes #[(.slice words0.a words0.n words0.c)] R h :=
  evFn_sound mixed Try.func31 (by kernel_rfl) (ref01_Bytes.eq words0 R h ▸ H)

/-! zugzwang/zugzwangkit.OverBytes -/
def kit_OverBytes.body (out0 : Sl) (R : Value → Heap → Prop) (h : Heap) : Prop :=
  sliceK out0 none (some (if (IntKind.i64.wrap (((out0.n : Int)) + 12)) < ((out0.c : Int)) then (IntKind.i64.wrap (((out0.n : Int)) + 12)) else ((out0.c : Int)))) none (sizeOfT Try.prog T.uint8) (fun (v_1 : Sl) =>
  loopW (fun X_3 (s_2 : Int) (h : Heap) =>
  if (decide (s_2 < ((v_1.n : Int)))) = true then
  callK Try.prog (.int .u8) F.kit_markByte #[(.int .i64 2), (.int .i64 s_2)] (fun (v_4 : Int) (h : Heap) =>
  idxK v_1 s_2 (sizeOfT Try.prog T.uint8) (fun (a_5 : Addr) =>
  storeK h ((some a_5)) (.int .u8 v_4) (fun (h : Heap) =>
  X_3 (IntKind.i64.wrap (s_2 + 1)) h))) h
  else
  R (.tuple #[]) h) 0 h)
def kit_OverBytes.ann : Ann := (.seq .leaf (.seq .leaf (.block (.loop [(3, (.int .i64))] (.seq (.seq .leaf (.cond .leaf .leaf)) (.seq (.block .leaf) .leaf))))))
theorem kit_OverBytes.eq (out0 : Sl) (R : Value → Heap → Prop) (h : Heap) : kit_OverBytes.body out0 R h = evFn Try.prog Try.f33 kit_OverBytes.ann [(.slice out0.a out0.n out0.c)] R h := by kernel_rfl
theorem kit_OverBytes.calls {out0 : Sl} {R : Value → Heap → Prop} {h : Heap} (H : kit_OverBytes.body out0 R h) : HC Try.prog F.kit_OverBytes #[(.slice out0.a out0.n out0.c)] R h :=
  evFn_sound mixed Try.func33 (by kernel_rfl) (kit_OverBytes.eq out0 R h ▸ H)

/-! zugzwang/zugzwangkit.OverLimbs -/
def kit_OverLimbs.body (out0 : Sl) (R : Value → Heap → Prop) (h : Heap) : Prop :=
  sliceK out0 none (some (if (IntKind.i64.wrap (((out0.n : Int)) + 12)) < ((out0.c : Int)) then (IntKind.i64.wrap (((out0.n : Int)) + 12)) else ((out0.c : Int)))) none (sizeOfT Try.prog T.uint32) (fun (v_1 : Sl) =>
  loopW (fun X_3 (s_2 : Int) (h : Heap) =>
  if (decide (s_2 < ((v_1.n : Int)))) = true then
  callK Try.prog (.int .i64) F.kit_mark #[(.int .i64 2), (.int .i64 s_2)] (fun (v_4 : Int) (h : Heap) =>
  idxK v_1 s_2 (sizeOfT Try.prog T.uint32) (fun (a_5 : Addr) =>
  storeK h ((some a_5)) (.int .u32 (IntKind.u32.wrap v_4)) (fun (h : Heap) =>
  X_3 (IntKind.i64.wrap (s_2 + 1)) h))) h
  else
  R (.tuple #[]) h) 0 h)
def kit_OverLimbs.ann : Ann := (.seq .leaf (.seq .leaf (.block (.loop [(3, (.int .i64))] (.seq (.seq .leaf (.cond .leaf .leaf)) (.seq (.block .leaf) .leaf))))))
theorem kit_OverLimbs.eq (out0 : Sl) (R : Value → Heap → Prop) (h : Heap) : kit_OverLimbs.body out0 R h = evFn Try.prog Try.f34 kit_OverLimbs.ann [(.slice out0.a out0.n out0.c)] R h := by kernel_rfl
theorem kit_OverLimbs.calls {out0 : Sl} {R : Value → Heap → Prop} {h : Heap} (H : kit_OverLimbs.body out0 R h) : HC Try.prog F.kit_OverLimbs #[(.slice out0.a out0.n out0.c)] R h :=
  evFn_sound mixed Try.func34 (by kernel_rfl) (kit_OverLimbs.eq out0 R h ▸ H)

/-! zugzwang/zugzwangkit.KeptBytes -/
def kit_KeptBytes.body (out0 : Sl) (l1 : Sl) (R : Value → Heap → Prop) (h : Heap) : Prop :=
  if (((out0.n : Int)) != ((l1.n : Int))) = true then
  R (.bool false) h
  else
  sliceK out0 none (some (IntKind.i64.wrap (((l1.n : Int)) + 12))) none (sizeOfT Try.prog T.uint8) (fun (v_1 : Sl) =>
  loopW (fun X_3 (s_2 : Int) (h : Heap) =>
  if (decide (s_2 < ((v_1.n : Int)))) = true then
  if (decide (s_2 < ((l1.n : Int)))) = true then
  idxK v_1 s_2 (sizeOfT Try.prog T.uint8) (fun (a_4 : Addr) =>
  loadK (.int .u8) h ((some a_4)) (fun (v_5 : Int) =>
  idxK l1 s_2 (sizeOfT Try.prog T.uint8) (fun (a_6 : Addr) =>
  loadK (.int .u8) h ((some a_6)) (fun (v_7 : Int) =>
  if (!(v_5 == v_7)) = true then
  R (.bool false) h
  else
  if (decide (s_2 ≥ ((l1.n : Int)))) = true then
  idxK v_1 s_2 (sizeOfT Try.prog T.uint8) (fun (a_8 : Addr) =>
  loadK (.int .u8) h ((some a_8)) (fun (v_9 : Int) =>
  callQ Try.prog (.int .u8) F.kit_markByte #[(.int .i64 1), (.int .i64 (IntKind.i64.wrap (s_2 - ((l1.n : Int)))))] (fun (v_10 : Int) =>
  if (!(v_9 == v_10)) = true then
  R (.bool false) h
  else
  X_3 (IntKind.i64.wrap (s_2 + 1)) h) h))
  else
  X_3 (IntKind.i64.wrap (s_2 + 1)) h))))
  else
  if (decide (s_2 ≥ ((l1.n : Int)))) = true then
  idxK v_1 s_2 (sizeOfT Try.prog T.uint8) (fun (a_11 : Addr) =>
  loadK (.int .u8) h ((some a_11)) (fun (v_12 : Int) =>
  callQ Try.prog (.int .u8) F.kit_markByte #[(.int .i64 1), (.int .i64 (IntKind.i64.wrap (s_2 - ((l1.n : Int)))))] (fun (v_13 : Int) =>
  if (!(v_12 == v_13)) = true then
  R (.bool false) h
  else
  X_3 (IntKind.i64.wrap (s_2 + 1)) h) h))
  else
  X_3 (IntKind.i64.wrap (s_2 + 1)) h
  else
  R (.bool true) h) 0 h)
def kit_KeptBytes.ann : Ann := (.seq .leaf (.seq (.seq .leaf (.cond (.seq .leaf .leaf) .leaf)) (.seq .leaf (.seq (.seq .leaf (.block (.loop [(6, (.int .i64))] (.seq (.seq .leaf (.cond .leaf .leaf)) (.seq (.block (.seq .leaf (.cond (.seq .leaf .leaf) .leaf))) .leaf))))) (.seq .leaf .leaf)))))
theorem kit_KeptBytes.eq (out0 : Sl) (l1 : Sl) (R : Value → Heap → Prop) (h : Heap) : kit_KeptBytes.body out0 l1 R h = evFn Try.prog Try.f35 kit_KeptBytes.ann [(.slice out0.a out0.n out0.c), (.slice l1.a l1.n l1.c)] R h := by kernel_rfl
theorem kit_KeptBytes.calls {out0 : Sl} {l1 : Sl} {R : Value → Heap → Prop} {h : Heap} (H : kit_KeptBytes.body out0 l1 R h) : HC Try.prog F.kit_KeptBytes #[(.slice out0.a out0.n out0.c), (.slice l1.a l1.n l1.c)] R h :=
  evFn_sound mixed Try.func35 (by kernel_rfl) (kit_KeptBytes.eq out0 l1 R h ▸ H)

/-! zugzwang/zugzwanglaw01.BitsBytes -/
def law01_BitsBytes.body (words0 : Sl) (b1 : Sl) (R : Value → Heap → Prop) (h : Heap) : Prop :=
  if (decide ((IntKind.i64.wrap (((words0.n : Int)) + ((b1.n : Int)))) > 1000)) = true then
  callK Try.prog .bool F.law01_awake #[] (fun (v_1 : Bool) (h : Heap) =>
  R (.bool v_1) h) h
  else
  callK Try.prog .slice F.kit_LentLimbs #[(.slice words0.a words0.n words0.c)] (fun (v_2 : Sl) (h : Heap) =>
  callK Try.prog .slice F.kit_LentBytes #[(.slice b1.a b1.n b1.c)] (fun (v_3 : Sl) (h : Heap) =>
  callK Try.prog .slice F.bits_Bytes #[(.slice v_2.a v_2.n v_2.c)] (fun (v_4 : Sl) (h : Heap) =>
  callK Try.prog (Kd.pair .slice (.int .i64)) F.bits_Words #[(.slice v_3.a v_3.n v_3.c)] (fun (v_5 : Sl × Int) (h : Heap) =>
  callK Try.prog (Kd.pair .slice (.int .i64)) F.ref01_Words #[(.slice b1.a b1.n b1.c)] (fun (v_6 : Sl × Int) (h : Heap) =>
  joinW (fun (s_7 : Bool) (h : Heap) =>
  callK Try.prog .unit F.kit_OverBytes #[(.slice v_4.a v_4.n v_4.c)] (fun (v_8 : Unit) (h : Heap) =>
  callK Try.prog .unit F.kit_OverLimbs #[(.slice v_5.1.a v_5.1.n v_5.1.c)] (fun (v_9 : Unit) (h : Heap) =>
  if s_7 = true then
  callK Try.prog .bool F.kit_KeptLimbs #[(.slice v_2.a v_2.n v_2.c), (.slice words0.a words0.n words0.c)] (fun (v_10 : Bool) (h : Heap) =>
  if v_10 = true then
  callK Try.prog .bool F.kit_KeptBytes #[(.slice v_3.a v_3.n v_3.c), (.slice b1.a b1.n b1.c)] (fun (v_11 : Bool) (h : Heap) =>
  if v_11 = true then
  callK Try.prog .bool F.law01_awake #[] (fun (v_12 : Bool) (h : Heap) =>
  R (.bool v_12) h) h
  else
  R (.bool false) h) h
  else
  R (.bool false) h) h
  else
  R (.bool false) h) h) h)
  (fun J_13 =>
  callK Try.prog .slice F.ref01_Bytes #[(.slice words0.a words0.n words0.c)] (fun (v_14 : Sl) (h : Heap) =>
  callK Try.prog .bool F.kit_SameBytes #[(.slice v_4.a v_4.n v_4.c), (.slice v_14.a v_14.n v_14.c)] (fun (v_15 : Bool) (h : Heap) =>
  if v_15 = true then
  if (v_5.2 == v_6.2) = true then
  callK Try.prog .bool F.kit_SameLimbs #[(.slice v_5.1.a v_5.1.n v_5.1.c), (.slice v_6.1.a v_6.1.n v_6.1.c)] (fun (v_16 : Bool) (h : Heap) =>
  J_13 v_16 h) h
  else
  J_13 false h
  else
  J_13 false h) h) h)) h) h) h) h) h
def law01_BitsBytes.ann : Ann := (.seq .leaf (.seq (.seq .leaf (.cond (.seq .leaf .leaf) .leaf)) (.seq .leaf (.seq .leaf (.seq .leaf (.seq .leaf (.join [(12, .bool)] .leaf (.seq .leaf (.seq .leaf (.seq .leaf .leaf))))))))))
theorem law01_BitsBytes.eq (words0 : Sl) (b1 : Sl) (R : Value → Heap → Prop) (h : Heap) : law01_BitsBytes.body words0 b1 R h = evFn Try.prog Try.f6 law01_BitsBytes.ann [(.slice words0.a words0.n words0.c), (.slice b1.a b1.n b1.c)] R h := by kernel_rfl
theorem law01_BitsBytes.calls {words0 : Sl} {b1 : Sl} {R : Value → Heap → Prop} {h : Heap} (H : law01_BitsBytes.body words0 b1 R h) : HC Try.prog F.law01_BitsBytes #[(.slice words0.a words0.n words0.c), (.slice b1.a b1.n b1.c)] R h :=
  evFn_sound mixed Try.func6 (by kernel_rfl) (law01_BitsBytes.eq words0 b1 R h ▸ H)

/-! zugzwang/bits.Choose -/
def bits_Choose.body (x0 : Int) (a1 : Int) (b2 : Int) (R : Value → Heap → Prop) (h : Heap) : Prop :=
  R (.int .u32 (IntKind.u32.wrap (BitVec.ofInt (IntKind.bits .u32) b2 ^^^ BitVec.ofInt (IntKind.bits .u32) (IntKind.u32.wrap (BitVec.ofInt (IntKind.bits .u32) x0 &&& BitVec.ofInt (IntKind.bits .u32) (IntKind.u32.wrap (BitVec.ofInt (IntKind.bits .u32) a1 ^^^ BitVec.ofInt (IntKind.bits .u32) b2).toNat)).toNat)).toNat)) h
def bits_Choose.ann : Ann := (.seq .leaf (.seq .leaf .leaf))
theorem bits_Choose.eq (x0 : Int) (a1 : Int) (b2 : Int) (R : Value → Heap → Prop) (h : Heap) : bits_Choose.body x0 a1 b2 R h = evFn Try.prog Try.f19 bits_Choose.ann [(.int .u32 x0), (.int .u32 a1), (.int .u32 b2)] R h := by kernel_rfl
theorem bits_Choose.calls {x0 : Int} {a1 : Int} {b2 : Int} {R : Value → Heap → Prop} {h : Heap} (H : bits_Choose.body x0 a1 b2 R h) : HC Try.prog F.bits_Choose #[(.int .u32 x0), (.int .u32 a1), (.int .u32 b2)] R h :=
  evFn_sound mixed Try.func19 (by kernel_rfl) (bits_Choose.eq x0 a1 b2 R h ▸ H)

/-! zugzwang/zugzwangref01.Choose -/
def ref01_Choose.body (x0 : Int) (a1 : Int) (b2 : Int) (R : Value → Heap → Prop) (h : Heap) : Prop :=
  loopW (fun X_2 (s_1 : Int × Int) (h : Heap) =>
  if (decide (s_1.2 < 32)) = true then
  callK Try.prog .bool F.ref01_bit #[(.int .u32 x0), (.int .i64 s_1.2)] (fun (v_3 : Bool) (h : Heap) =>
  if v_3 = true then
  callK Try.prog .bool F.ref01_bit #[(.int .u32 a1), (.int .i64 s_1.2)] (fun (v_4 : Bool) (h : Heap) =>
  if v_4 = true then
  callK Try.prog (.int .u32) F.ref01_place #[(.int .i64 s_1.2), (.bool true)] (fun (v_5 : Int) (h : Heap) =>
  X_2 (IntKind.u32.wrap (s_1.1 + v_5), IntKind.i64.wrap (s_1.2 + 1)) h) h
  else
  callK Try.prog .bool F.ref01_bit #[(.int .u32 x0), (.int .i64 s_1.2)] (fun (v_6 : Bool) (h : Heap) =>
  if (!v_6) = true then
  callK Try.prog .bool F.ref01_bit #[(.int .u32 b2), (.int .i64 s_1.2)] (fun (v_7 : Bool) (h : Heap) =>
  callK Try.prog (.int .u32) F.ref01_place #[(.int .i64 s_1.2), (.bool v_7)] (fun (v_8 : Int) (h : Heap) =>
  X_2 (IntKind.u32.wrap (s_1.1 + v_8), IntKind.i64.wrap (s_1.2 + 1)) h) h) h
  else
  callK Try.prog (.int .u32) F.ref01_place #[(.int .i64 s_1.2), (.bool false)] (fun (v_9 : Int) (h : Heap) =>
  X_2 (IntKind.u32.wrap (s_1.1 + v_9), IntKind.i64.wrap (s_1.2 + 1)) h) h) h) h
  else
  callK Try.prog .bool F.ref01_bit #[(.int .u32 x0), (.int .i64 s_1.2)] (fun (v_10 : Bool) (h : Heap) =>
  if (!v_10) = true then
  callK Try.prog .bool F.ref01_bit #[(.int .u32 b2), (.int .i64 s_1.2)] (fun (v_11 : Bool) (h : Heap) =>
  callK Try.prog (.int .u32) F.ref01_place #[(.int .i64 s_1.2), (.bool v_11)] (fun (v_12 : Int) (h : Heap) =>
  X_2 (IntKind.u32.wrap (s_1.1 + v_12), IntKind.i64.wrap (s_1.2 + 1)) h) h) h
  else
  callK Try.prog (.int .u32) F.ref01_place #[(.int .i64 s_1.2), (.bool false)] (fun (v_13 : Int) (h : Heap) =>
  X_2 (IntKind.u32.wrap (s_1.1 + v_13), IntKind.i64.wrap (s_1.2 + 1)) h) h) h) h
  else
  R (.int .u32 s_1.1) h) (0, 0) h
def ref01_Choose.ann : Ann := (.seq .leaf (.seq .leaf (.seq (.seq .leaf (.block (.loop [(7, (.int .u32)), (8, (.int .i64))] (.seq (.seq .leaf (.cond .leaf .leaf)) (.seq (.block .leaf) .leaf))))) (.seq .leaf .leaf))))
theorem ref01_Choose.eq (x0 : Int) (a1 : Int) (b2 : Int) (R : Value → Heap → Prop) (h : Heap) : ref01_Choose.body x0 a1 b2 R h = evFn Try.prog Try.f20 ref01_Choose.ann [(.int .u32 x0), (.int .u32 a1), (.int .u32 b2)] R h := by kernel_rfl
theorem ref01_Choose.calls {x0 : Int} {a1 : Int} {b2 : Int} {R : Value → Heap → Prop} {h : Heap} (H : ref01_Choose.body x0 a1 b2 R h) : HC Try.prog F.ref01_Choose #[(.int .u32 x0), (.int .u32 a1), (.int .u32 b2)] R h :=
  evFn_sound mixed Try.func20 (by kernel_rfl) (ref01_Choose.eq x0 a1 b2 R h ▸ H)

/-! zugzwang/zugzwangref01.Most -/
def ref01_Most.body (words0 : Sl) (R : Value → Heap → Prop) (h : Heap) : Prop :=
  loopW (fun X_2 (s_1 : Int × Int) (h : Heap) =>
  if (decide (s_1.2 < 32)) = true then
  loopW (fun X_4 (s_3 : Int × Int) (h : Heap) =>
  if (decide (s_3.2 < ((words0.n : Int)))) = true then
  idxK words0 s_3.2 (sizeOfT Try.prog T.uint32) (fun (a_5 : Addr) =>
  loadK (.int .u32) h ((some a_5)) (fun (v_6 : Int) =>
  callK Try.prog .bool F.ref01_bit #[(.int .u32 v_6), (.int .i64 s_1.2)] (fun (v_7 : Bool) (h : Heap) =>
  if v_7 = true then
  X_4 (IntKind.i64.wrap (s_3.1 + 1), IntKind.i64.wrap (s_3.2 + 1)) h
  else
  X_4 (IntKind.i64.wrap (s_3.1 - 1), IntKind.i64.wrap (s_3.2 + 1)) h) h))
  else
  callK Try.prog (.int .u32) F.ref01_place #[(.int .i64 s_1.2), (.bool (decide (s_3.1 > 0)))] (fun (v_8 : Int) (h : Heap) =>
  X_2 (IntKind.u32.wrap (s_1.1 + v_8), IntKind.i64.wrap (s_1.2 + 1)) h) h) (0, 0) h
  else
  R (.int .u32 s_1.1) h) (0, 0) h
def ref01_Most.ann : Ann := (.seq .leaf (.seq .leaf (.seq (.seq .leaf (.block (.loop [(3, (.int .u32)), (4, (.int .i64))] (.seq (.seq .leaf (.cond .leaf .leaf)) (.seq (.block (.seq .leaf (.seq (.seq .leaf (.block (.loop [(5, (.int .i64)), (6, (.int .i64))] (.seq (.seq .leaf (.cond .leaf .leaf)) (.seq (.block (.seq .leaf (.cond .leaf .leaf))) .leaf))))) .leaf))) .leaf))))) (.seq .leaf .leaf))))
theorem ref01_Most.eq (words0 : Sl) (R : Value → Heap → Prop) (h : Heap) : ref01_Most.body words0 R h = evFn Try.prog Try.f22 ref01_Most.ann [(.slice words0.a words0.n words0.c)] R h := by kernel_rfl
theorem ref01_Most.calls {words0 : Sl} {R : Value → Heap → Prop} {h : Heap} (H : ref01_Most.body words0 R h) : HC Try.prog F.ref01_Most #[(.slice words0.a words0.n words0.c)] R h :=
  evFn_sound mixed Try.func22 (by kernel_rfl) (ref01_Most.eq words0 R h ▸ H)

/-! zugzwang/bits.Sum -/
def bits_Sum.body (words0 : Sl) (R : Value → Heap → Prop) (h : Heap) : Prop :=
  loopW (fun X_2 (s_1 : Int × Int) (h : Heap) =>
  if (decide (s_1.2 < ((words0.n : Int)))) = true then
  idxK words0 s_1.2 (sizeOfT Try.prog T.uint32) (fun (a_3 : Addr) =>
  loadK (.int .u32) h ((some a_3)) (fun (v_4 : Int) =>
  X_2 (IntKind.u32.wrap (s_1.1 + v_4), IntKind.i64.wrap (s_1.2 + 1)) h))
  else
  R (.int .u32 s_1.1) h) (0, 0) h
def bits_Sum.ann : Ann := (.seq .leaf (.seq (.seq .leaf (.block (.loop [(2, (.int .u32)), (7, (.int .i64))] (.seq .leaf (.seq (.cond .leaf .leaf) (.seq (.block (.seq .leaf .leaf)) .leaf)))))) (.seq .leaf .leaf)))
theorem bits_Sum.eq (words0 : Sl) (R : Value → Heap → Prop) (h : Heap) : bits_Sum.body words0 R h = evFn Try.prog Try.f23 bits_Sum.ann [(.slice words0.a words0.n words0.c)] R h := by kernel_rfl
theorem bits_Sum.calls {words0 : Sl} {R : Value → Heap → Prop} {h : Heap} (H : bits_Sum.body words0 R h) : HC Try.prog F.bits_Sum #[(.slice words0.a words0.n words0.c)] R h :=
  evFn_sound mixed Try.func23 (by kernel_rfl) (bits_Sum.eq words0 R h ▸ H)

/-! zugzwang/zugzwangref01.Sum -/
def ref01_Sum.body (words0 : Sl) (R : Value → Heap → Prop) (h : Heap) : Prop :=
  loopW (fun X_2 (s_1 : Int × Int) (h : Heap) =>
  if (decide (s_1.2 < ((words0.n : Int)))) = true then
  idxK words0 s_1.2 (sizeOfT Try.prog T.uint32) (fun (a_3 : Addr) =>
  loadK (.int .u32) h ((some a_3)) (fun (v_4 : Int) =>
  divK 4294967296
  (X_2 (Int.tmod (IntKind.u64.wrap (s_1.1 + (IntKind.u64.wrap v_4))) 4294967296, IntKind.i64.wrap (s_1.2 + 1)) h)))
  else
  R (.int .u32 (IntKind.u32.wrap s_1.1)) h) (0, 0) h
def ref01_Sum.ann : Ann := (.seq .leaf (.seq .leaf (.seq (.seq .leaf (.block (.loop [(3, (.int .u64)), (4, (.int .i64))] (.seq (.seq .leaf (.cond .leaf .leaf)) (.seq (.block .leaf) .leaf))))) (.seq .leaf .leaf))))
theorem ref01_Sum.eq (words0 : Sl) (R : Value → Heap → Prop) (h : Heap) : ref01_Sum.body words0 R h = evFn Try.prog Try.f24 ref01_Sum.ann [(.slice words0.a words0.n words0.c)] R h := by kernel_rfl
theorem ref01_Sum.calls {words0 : Sl} {R : Value → Heap → Prop} {h : Heap} (H : ref01_Sum.body words0 R h) : HC Try.prog F.ref01_Sum #[(.slice words0.a words0.n words0.c)] R h :=
  evFn_sound mixed Try.func24 (by kernel_rfl) (ref01_Sum.eq words0 R h ▸ H)

/-! zugzwang/zugzwanglaw01.BitsPlaces -/
def law01_BitsPlaces.body (x0 : Int) (a1 : Int) (b2 : Int) (words3 : Sl) (R : Value → Heap → Prop) (h : Heap) : Prop :=
  if (decide (((words3.n : Int)) > 1000)) = true then
  callK Try.prog .bool F.law01_awake #[] (fun (v_1 : Bool) (h : Heap) =>
  R (.bool v_1) h) h
  else
  callK Try.prog .slice F.kit_LentLimbs #[(.slice words3.a words3.n words3.c)] (fun (v_2 : Sl) (h : Heap) =>
  joinW (fun (s_3 : Bool) (h : Heap) =>
  if s_3 = true then
  callK Try.prog .bool F.kit_KeptLimbs #[(.slice v_2.a v_2.n v_2.c), (.slice words3.a words3.n words3.c)] (fun (v_4 : Bool) (h : Heap) =>
  if v_4 = true then
  callK Try.prog .bool F.law01_awake #[] (fun (v_5 : Bool) (h : Heap) =>
  R (.bool v_5) h) h
  else
  R (.bool false) h) h
  else
  R (.bool false) h)
  (fun J_6 =>
  callK Try.prog (.int .u32) F.bits_Choose #[(.int .u32 x0), (.int .u32 a1), (.int .u32 b2)] (fun (v_7 : Int) (h : Heap) =>
  callK Try.prog (.int .u32) F.ref01_Choose #[(.int .u32 x0), (.int .u32 a1), (.int .u32 b2)] (fun (v_8 : Int) (h : Heap) =>
  if (v_7 == v_8) = true then
  callK Try.prog (.int .u32) F.bits_Most #[(.slice v_2.a v_2.n v_2.c)] (fun (v_9 : Int) (h : Heap) =>
  callK Try.prog (.int .u32) F.ref01_Most #[(.slice words3.a words3.n words3.c)] (fun (v_10 : Int) (h : Heap) =>
  if (v_9 == v_10) = true then
  callK Try.prog (.int .u32) F.bits_Sum #[(.slice v_2.a v_2.n v_2.c)] (fun (v_11 : Int) (h : Heap) =>
  callK Try.prog (.int .u32) F.ref01_Sum #[(.slice words3.a words3.n words3.c)] (fun (v_12 : Int) (h : Heap) =>
  J_6 (v_11 == v_12) h) h) h
  else
  J_6 false h) h) h
  else
  J_6 false h) h) h)) h
def law01_BitsPlaces.ann : Ann := (.seq .leaf (.seq (.seq .leaf (.cond (.seq .leaf .leaf) .leaf)) (.seq .leaf (.join [(10, .bool)] .leaf (.seq .leaf .leaf)))))
theorem law01_BitsPlaces.eq (x0 : Int) (a1 : Int) (b2 : Int) (words3 : Sl) (R : Value → Heap → Prop) (h : Heap) : law01_BitsPlaces.body x0 a1 b2 words3 R h = evFn Try.prog Try.f4 law01_BitsPlaces.ann [(.int .u32 x0), (.int .u32 a1), (.int .u32 b2), (.slice words3.a words3.n words3.c)] R h := by kernel_rfl
theorem law01_BitsPlaces.calls {x0 : Int} {a1 : Int} {b2 : Int} {words3 : Sl} {R : Value → Heap → Prop} {h : Heap} (H : law01_BitsPlaces.body x0 a1 b2 words3 R h) : HC Try.prog F.law01_BitsPlaces #[(.int .u32 x0), (.int .u32 a1), (.int .u32 b2), (.slice words3.a words3.n words3.c)] R h :=
  evFn_sound mixed Try.func4 (by kernel_rfl) (law01_BitsPlaces.eq x0 a1 b2 words3 R h ▸ H)

/-! zugzwang/zugzwanglaw01.BitsEnds -/
def law01_BitsEnds.body  (R : Value → Heap → Prop) (h : Heap) : Prop :=
  newSlK h 9 #[(.int .u32 0), (.int .u32 1), (.int .u32 2), (.int .u32 3), (.int .u32 2147483648), (.int .u32 4294967295), (.int .u32 2147483649), (.int .u32 305419896), (.int .u32 2863311530)] T.uint32 (fun (v_1 : Sl) (h : Heap) =>
  newSlK h 16 #[(.int .i64 ((-9223372036854775808))), (.int .i64 ((-65))), (.int .i64 ((-64))), (.int .i64 ((-33))), (.int .i64 ((-32))), (.int .i64 ((-31))), (.int .i64 ((-1))), (.int .i64 0), (.int .i64 1), (.int .i64 31), (.int .i64 32), (.int .i64 33), (.int .i64 63), (.int .i64 64), (.int .i64 65), (.int .i64 9223372036854775807)] T.int (fun (v_2 : Sl) (h : Heap) =>
  loopW (fun X_4 (s_3 : Int) (h : Heap) =>
  if (decide (s_3 < ((v_1.n : Int)))) = true then
  loopW (fun X_6 (s_5 : Int) (h : Heap) =>
  if (decide (s_5 < ((v_2.n : Int)))) = true then
  idxK v_1 s_3 (sizeOfT Try.prog T.uint32) (fun (a_7 : Addr) =>
  idxK v_2 s_5 (sizeOfT Try.prog T.int) (fun (a_8 : Addr) =>
  idxK v_2 s_5 (sizeOfT Try.prog T.int) (fun (a_9 : Addr) =>
  divK ((v_2.n : Int))
  (idxK v_2 (Int.tmod (IntKind.i64.wrap (s_5 + 3)) ((v_2.n : Int))) (sizeOfT Try.prog T.int) (fun (a_10 : Addr) =>
  loadK (.int .u32) h ((some a_7)) (fun (v_11 : Int) =>
  loadK (.int .i64) h ((some a_8)) (fun (v_12 : Int) =>
  loadK (.int .i64) h ((some a_9)) (fun (v_13 : Int) =>
  loadK (.int .i64) h ((some a_10)) (fun (v_14 : Int) =>
  newSlK h 3 #[(.int .i64 v_13), (.int .i64 7), (.int .i64 v_14)] T.int (fun (v_15 : Sl) (h : Heap) =>
  callK Try.prog .bool F.law01_BitsTurns #[(.int .u32 v_11), (.int .i64 v_12), (.slice v_15.a v_15.n v_15.c)] (fun (v_16 : Bool) (h : Heap) =>
  if (!v_16) = true then
  R (.bool false) h
  else
  X_6 (IntKind.i64.wrap (s_5 + 1)) h) h))))))))))
  else
  idxK v_1 s_3 (sizeOfT Try.prog T.uint32) (fun (a_17 : Addr) =>
  loadK (.int .u32) h ((some a_17)) (fun (v_18 : Int) =>
  callK Try.prog .bool F.law01_BitsTurns #[(.int .u32 v_18), (.int .i64 0), (.slice none 0 0)] (fun (v_19 : Bool) (h : Heap) =>
  if (!v_19) = true then
  R (.bool false) h
  else
  idxK v_1 s_3 (sizeOfT Try.prog T.uint32) (fun (a_20 : Addr) =>
  divK 9
  (idxK v_1 (Int.tmod (IntKind.i64.wrap (s_3 + 1)) 9) (sizeOfT Try.prog T.uint32) (fun (a_21 : Addr) =>
  divK 9
  (idxK v_1 (Int.tmod (IntKind.i64.wrap (s_3 + 2)) 9) (sizeOfT Try.prog T.uint32) (fun (a_22 : Addr) =>
  sliceK v_1 none (some s_3) none (sizeOfT Try.prog T.uint32) (fun (v_23 : Sl) =>
  loadK (.int .u32) h ((some a_20)) (fun (v_24 : Int) =>
  loadK (.int .u32) h ((some a_21)) (fun (v_25 : Int) =>
  loadK (.int .u32) h ((some a_22)) (fun (v_26 : Int) =>
  callK Try.prog .bool F.law01_BitsPlaces #[(.int .u32 v_24), (.int .u32 v_25), (.int .u32 v_26), (.slice v_23.a v_23.n v_23.c)] (fun (v_27 : Bool) (h : Heap) =>
  if (!v_27) = true then
  R (.bool false) h
  else
  idxK v_1 s_3 (sizeOfT Try.prog T.uint32) (fun (a_28 : Addr) =>
  idxK v_1 s_3 (sizeOfT Try.prog T.uint32) (fun (a_29 : Addr) =>
  idxK v_1 s_3 (sizeOfT Try.prog T.uint32) (fun (a_30 : Addr) =>
  idxK v_1 s_3 (sizeOfT Try.prog T.uint32) (fun (a_31 : Addr) =>
  idxK v_1 s_3 (sizeOfT Try.prog T.uint32) (fun (a_32 : Addr) =>
  loadK (.int .u32) h ((some a_28)) (fun (v_33 : Int) =>
  loadK (.int .u32) h ((some a_29)) (fun (v_34 : Int) =>
  loadK (.int .u32) h ((some a_30)) (fun (v_35 : Int) =>
  loadK (.int .u32) h ((some a_31)) (fun (v_36 : Int) =>
  loadK (.int .u32) h ((some a_32)) (fun (v_37 : Int) =>
  newSlK h 2 #[(.int .u32 v_36), (.int .u32 (IntKind.u32.wrap (BitVec.ofInt (IntKind.bits .u32) (if IntKind.signed .u32 then -1 else IntKind.max .u32) ^^^ BitVec.ofInt (IntKind.bits .u32) v_37).toNat))] T.uint32 (fun (v_38 : Sl) (h : Heap) =>
  callK Try.prog .bool F.law01_BitsPlaces #[(.int .u32 v_33), (.int .u32 v_34), (.int .u32 v_35), (.slice v_38.a v_38.n v_38.c)] (fun (v_39 : Bool) (h : Heap) =>
  if (!v_39) = true then
  R (.bool false) h
  else
  sliceK v_1 none (some s_3) none (sizeOfT Try.prog T.uint32) (fun (v_40 : Sl) =>
  opK Try.prog .slice (Instr.makeSlice T.sl_uint8 (.int .i64 s_3) (.int .i64 s_3)) (fun (v_41 : Sl) (h : Heap) =>
  callK Try.prog .bool F.law01_BitsBytes #[(.slice v_40.a v_40.n v_40.c), (.slice v_41.a v_41.n v_41.c)] (fun (v_42 : Bool) (h : Heap) =>
  if (!v_42) = true then
  R (.bool false) h
  else
  sliceK v_1 (some s_3) none none (sizeOfT Try.prog T.uint32) (fun (v_43 : Sl) =>
  newSlK h 9 #[(.int .u8 255), (.int .u8 0), (.int .u8 1), (.int .u8 128), (.int .u8 7), (.int .u8 8), (.int .u8 9), (.int .u8 10), (.int .u8 11)] T.uint8 (fun (v_44 : Sl) (h : Heap) =>
  sliceK v_44 none (some s_3) none (sizeOfT Try.prog T.uint8) (fun (v_45 : Sl) =>
  callK Try.prog .bool F.law01_BitsBytes #[(.slice v_43.a v_43.n v_43.c), (.slice v_45.a v_45.n v_45.c)] (fun (v_46 : Bool) (h : Heap) =>
  if (!v_46) = true then
  R (.bool false) h
  else
  X_4 (IntKind.i64.wrap (s_3 + 1)) h) h)))) h) h)) h)))))))))))) h)))))))))) h))) 0 h
  else
  newSlK h 3 #[(.int .u8 1), (.int .u8 2), (.int .u8 3)] T.uint8 (fun (v_47 : Sl) (h : Heap) =>
  callK Try.prog (Kd.pair .slice (.int .i64)) F.bits_Words #[(.slice v_47.a v_47.n v_47.c)] (fun (v_48 : Sl × Int) (h : Heap) =>
  if (v_48.2 == 4) = true then
  callK Try.prog .bool F.law01_awake #[] (fun (v_49 : Bool) (h : Heap) =>
  R (.bool v_49) h) h
  else
  R (.bool false) h) h)) 0 h))
def law01_BitsEnds.ann : Ann := (.seq .leaf (.seq .leaf (.seq .leaf (.seq (.seq .leaf (.block (.loop [(3, (.int .i64))] (.seq (.seq .leaf (.cond .leaf .leaf)) (.seq (.block (.seq (.seq .leaf (.block (.loop [(4, (.int .i64))] (.seq (.seq .leaf (.cond .leaf .leaf)) (.seq (.block (.seq (.any (.loc 0 (.loc 1 (.loc 2 (.loc 4 (.loc 5 (.loc 6 (.loc 8 (.loc 9 (.loc 10 (.loc 12 (.loc 13 (.loc 14 (.loc 15 (.loc 16 (.loc 17 (.loc 18 (.rd 3 6291456 (.rd 7 6291456 (.rd 11 7340032 (.rd 19 7340032 (.last 20 (.last 21 (.loc 22 .done)))))))))))))))))))))))) (.cond (.seq .leaf .leaf) .leaf))) .leaf))))) (.seq (.any (.loc 0 (.loc 1 (.loc 2 (.rd 3 18889465931478580854768 (.last 4 (.loc 5 (.loc 6 (.locA 7 (.loc 8 (.loc 9 (.loc 10 (.loc 11 (.loc 12 (.loc 13 (.loc 14 (.loc 15 (.loc 16 (.loc 17 (.loc 18 (.loc 19 (.loc 20 (.loc 21 (.loc 22 (.loc 23 (.loc 24 (.loc 25 (.loc 26 (.loc 27 (.loc 28 (.loc 29 (.loc 30 (.loc 31 (.loc 32 (.loc 33 (.loc 34 (.loc 35 (.loc 36 (.loc 37 (.loc 38 (.loc 39 (.loc 40 (.loc 41 (.loc 42 (.loc 43 (.loc 44 (.loc 45 (.loc 46 (.loc 47 (.loc 48 (.loc 49 (.loc 50 (.loc 51 (.loc 52 (.loc 53 (.loc 54 (.loc 55 (.loc 56 (.loc 57 (.loc 58 (.loc 59 (.loc 60 (.loc 61 (.loc 62 (.loc 63 (.loc 64 (.loc 65 (.loc 66 (.loc 67 (.loc 68 (.loc 69 (.loc 70 (.loc 71 (.loc 72 (.loc 73 .done)))))))))))))))))))))))))))))))))))))))))))))))))))))))))))))))))) (.loc 8 (.loc 9 (.loc 11 (.loc 12 (.loc 13 (.loc 14 (.loc 15 (.loc 17 (.loc 18 (.loc 19 (.loc 20 (.loc 21 (.loc 23 (.loc 24 (.loc 25 (.rd 10 18889465931478513745920 (.rd 16 18889465931478513745920 (.rd 22 18889465931478513745920 (.last 26 (.loc 27 (.loc 28 (.loc 29 (.locA 30 (.loc 31 (.loc 32 (.loc 33 (.loc 34 (.loc 35 (.loc 36 (.loc 37 (.loc 38 (.loc 39 (.loc 40 (.loc 41 (.loc 42 (.loc 43 (.loc 44 (.loc 45 (.loc 46 (.loc 47 (.loc 48 (.loc 49 (.loc 50 (.loc 51 (.loc 52 (.loc 53 (.loc 54 (.loc 55 (.loc 56 (.loc 57 (.loc 58 (.loc 59 (.loc 60 (.loc 61 (.loc 62 (.loc 63 (.loc 64 (.loc 65 (.loc 66 (.loc 67 (.loc 68 (.loc 69 (.loc 70 (.loc 71 (.loc 72 (.loc 73 .done))))))))))))))))))))))))))))))))))))))))))) (.loc 31 (.loc 32 (.loc 34 (.loc 35 (.loc 36 (.loc 38 (.loc 39 (.loc 40 (.loc 42 (.loc 43 (.loc 44 (.loc 46 (.loc 47 (.loc 48 (.rd 33 18889461427878953484288 (.rd 37 18889461427878953484288 (.rd 41 18889461427878953484288 (.rd 45 18889463679678767169536 (.rd 49 18889464805578674012160 (.loc 50 (.last 51 (.last 52 (.loc 53 (.loc 54 (.loc 55 (.locA 56 (.loc 57 (.loc 58 (.loc 59 (.loc 60 (.loc 61 (.loc 62 (.loc 63 (.loc 64 (.loc 65 (.loc 66 (.loc 67 (.loc 68 (.loc 69 (.loc 70 (.loc 71 (.loc 72 (.loc 73 .done))))))))))))))))) (.loc 57 (.loc 58 (.loc 59 (.last 60 (.last 61 (.loc 62 (.loc 63 (.loc 64 (.locA 65 (.loc 66 (.loc 67 (.loc 68 (.loc 69 (.loc 70 (.loc 71 (.loc 72 (.loc 73 .done)))))))) (.loc 66 (.loc 67 (.loc 69 (.last 68 (.loc 70 (.last 71 (.loc 72 (.loc 73 .done))))))))))))))))))))))))))))))))))))))))))))))))))))))))))))))))))))))))))) (.cond (.seq .leaf .leaf) .leaf)))) .leaf))))) (.seq .leaf (.seq .leaf .leaf))))))
theorem law01_BitsEnds.eq  (R : Value → Heap → Prop) (h : Heap) : law01_BitsEnds.body  R h = evFn Try.prog Try.f8 law01_BitsEnds.ann [] R h := by kernel_rfl
theorem law01_BitsEnds.calls  {R : Value → Heap → Prop} {h : Heap} (H : law01_BitsEnds.body  R h) : HC Try.prog F.law01_BitsEnds #[] R h :=
  evFn_sound mixed Try.func8 (by kernel_rfl) (law01_BitsEnds.eq  R h ▸ H)

/-! zugzwang/zugzwanglaw01.BitsRules -/
def law01_BitsRules.body (x0 : Int) (a1 : Int) (b2 : Int) (R : Value → Heap → Prop) (h : Heap) : Prop :=
  callK Try.prog .bool F.law01_awake #[] (fun (v_1 : Bool) (h : Heap) =>
  if (!v_1) = true then
  R (.bool false) h
  else
  callK Try.prog (.int .u32) F.bits_Choose #[(.int .u32 x0), (.int .u32 a1), (.int .u32 a1)] (fun (v_2 : Int) (h : Heap) =>
  if (v_2 != a1) = true then
  R (.bool false) h
  else
  callK Try.prog (.int .u32) F.bits_Choose #[(.int .u32 4294967295), (.int .u32 a1), (.int .u32 b2)] (fun (v_3 : Int) (h : Heap) =>
  if (v_3 != a1) = true then
  R (.bool false) h
  else
  callK Try.prog (.int .u32) F.bits_Choose #[(.int .u32 0), (.int .u32 a1), (.int .u32 b2)] (fun (v_4 : Int) (h : Heap) =>
  if (v_4 != b2) = true then
  R (.bool false) h
  else
  callK Try.prog (.int .u32) F.bits_Choose #[(.int .u32 x0), (.int .u32 a1), (.int .u32 b2)] (fun (v_5 : Int) (h : Heap) =>
  callK Try.prog (.int .u32) F.bits_Choose #[(.int .u32 (IntKind.u32.wrap (BitVec.ofInt (IntKind.bits .u32) (if IntKind.signed .u32 then -1 else IntKind.max .u32) ^^^ BitVec.ofInt (IntKind.bits .u32) x0).toNat)), (.int .u32 a1), (.int .u32 b2)] (fun (v_6 : Int) (h : Heap) =>
  if ((IntKind.u32.wrap (BitVec.ofInt (IntKind.bits .u32) v_5 ^^^ BitVec.ofInt (IntKind.bits .u32) v_6).toNat) != (IntKind.u32.wrap (BitVec.ofInt (IntKind.bits .u32) a1 ^^^ BitVec.ofInt (IntKind.bits .u32) b2).toNat)) = true then
  R (.bool false) h
  else
  newSlK h 3 #[(.int .u32 x0), (.int .u32 a1), (.int .u32 b2)] T.uint32 (fun (v_7 : Sl) (h : Heap) =>
  callK Try.prog (.int .u32) F.bits_Most #[(.slice v_7.a v_7.n v_7.c)] (fun (v_8 : Int) (h : Heap) =>
  newSlK h 3 #[(.int .u32 b2), (.int .u32 x0), (.int .u32 a1)] T.uint32 (fun (v_9 : Sl) (h : Heap) =>
  callK Try.prog (.int .u32) F.bits_Most #[(.slice v_9.a v_9.n v_9.c)] (fun (v_10 : Int) (h : Heap) =>
  if (v_8 != v_10) = true then
  R (.bool false) h
  else
  newSlK h 3 #[(.int .u32 a1), (.int .u32 x0), (.int .u32 b2)] T.uint32 (fun (v_11 : Sl) (h : Heap) =>
  callK Try.prog (.int .u32) F.bits_Most #[(.slice v_11.a v_11.n v_11.c)] (fun (v_12 : Int) (h : Heap) =>
  if (v_8 != v_12) = true then
  R (.bool false) h
  else
  newSlK h 3 #[(.int .u32 x0), (.int .u32 x0), (.int .u32 a1)] T.uint32 (fun (v_13 : Sl) (h : Heap) =>
  callK Try.prog (.int .u32) F.bits_Most #[(.slice v_13.a v_13.n v_13.c)] (fun (v_14 : Int) (h : Heap) =>
  if (v_14 != x0) = true then
  R (.bool false) h
  else
  newSlK h 2 #[(.int .u32 x0), (.int .u32 a1)] T.uint32 (fun (v_15 : Sl) (h : Heap) =>
  callK Try.prog (.int .u32) F.bits_Most #[(.slice v_15.a v_15.n v_15.c)] (fun (v_16 : Int) (h : Heap) =>
  if (v_16 != (IntKind.u32.wrap (BitVec.ofInt (IntKind.bits .u32) x0 &&& BitVec.ofInt (IntKind.bits .u32) a1).toNat)) = true then
  R (.bool false) h
  else
  newSlK h 1 #[(.int .u32 x0)] T.uint32 (fun (v_17 : Sl) (h : Heap) =>
  callK Try.prog (.int .u32) F.bits_Most #[(.slice v_17.a v_17.n v_17.c)] (fun (v_18 : Int) (h : Heap) =>
  if (v_18 != x0) = true then
  R (.bool false) h
  else
  callK Try.prog (.int .u32) F.bits_Most #[(.slice none 0 0)] (fun (v_19 : Int) (h : Heap) =>
  if (v_19 != 0) = true then
  R (.bool false) h
  else
  newSlK h 3 #[(.int .u32 x0), (.int .u32 a1), (.int .u32 b2)] T.uint32 (fun (v_20 : Sl) (h : Heap) =>
  callK Try.prog (.int .u32) F.bits_Sum #[(.slice v_20.a v_20.n v_20.c)] (fun (v_21 : Int) (h : Heap) =>
  newSlK h 3 #[(.int .u32 b2), (.int .u32 a1), (.int .u32 x0)] T.uint32 (fun (v_22 : Sl) (h : Heap) =>
  callK Try.prog (.int .u32) F.bits_Sum #[(.slice v_22.a v_22.n v_22.c)] (fun (v_23 : Int) (h : Heap) =>
  if (v_21 == v_23) = true then
  newSlK h 3 #[(.int .u32 x0), (.int .u32 (IntKind.u32.wrap (BitVec.ofInt (IntKind.bits .u32) (if IntKind.signed .u32 then -1 else IntKind.max .u32) ^^^ BitVec.ofInt (IntKind.bits .u32) x0).toNat)), (.int .u32 1)] T.uint32 (fun (v_24 : Sl) (h : Heap) =>
  callK Try.prog (.int .u32) F.bits_Sum #[(.slice v_24.a v_24.n v_24.c)] (fun (v_25 : Int) (h : Heap) =>
  if (v_25 == 0) = true then
  newSlK h 2 #[(.int .u32 x0), (.int .u32 a1)] T.uint32 (fun (v_26 : Sl) (h : Heap) =>
  callK Try.prog (.int .u32) F.bits_Sum #[(.slice v_26.a v_26.n v_26.c)] (fun (v_27 : Int) (h : Heap) =>
  newSlK h 2 #[(.int .u32 v_27), (.int .u32 b2)] T.uint32 (fun (v_28 : Sl) (h : Heap) =>
  callK Try.prog (.int .u32) F.bits_Sum #[(.slice v_28.a v_28.n v_28.c)] (fun (v_29 : Int) (h : Heap) =>
  newSlK h 3 #[(.int .u32 x0), (.int .u32 a1), (.int .u32 b2)] T.uint32 (fun (v_30 : Sl) (h : Heap) =>
  callK Try.prog (.int .u32) F.bits_Sum #[(.slice v_30.a v_30.n v_30.c)] (fun (v_31 : Int) (h : Heap) =>
  if (v_29 == v_31) = true then
  newSlK h 2 #[(.int .i64 3), (.int .i64 3)] T.int (fun (v_32 : Sl) (h : Heap) =>
  callK Try.prog (.int .u32) F.bits_Mix #[(.int .u32 x0), (.slice v_32.a v_32.n v_32.c)] (fun (v_33 : Int) (h : Heap) =>
  if (v_33 == 0) = true then
  newSlK h 1 #[(.int .i64 5)] T.int (fun (v_34 : Sl) (h : Heap) =>
  callK Try.prog (.int .u32) F.bits_Mix #[(.int .u32 x0), (.slice v_34.a v_34.n v_34.c)] (fun (v_35 : Int) (h : Heap) =>
  callK Try.prog (.int .u32) F.bits_Turn #[(.int .u32 x0), (.int .i64 5)] (fun (v_36 : Int) (h : Heap) =>
  R (.bool (v_35 == v_36)) h) h) h)
  else
  R (.bool false) h) h)
  else
  R (.bool false) h) h)) h)) h)
  else
  R (.bool false) h) h)
  else
  R (.bool false) h) h)) h)) h) h)) h)) h)) h)) h)) h)) h) h) h) h) h) h
def law01_BitsRules.ann : Ann := (.seq .leaf (.seq (.seq .leaf (.cond (.seq .leaf .leaf) .leaf)) (.seq (.seq .leaf (.cond (.seq .leaf .leaf) .leaf)) (.seq .leaf (.seq (.seq .leaf (.cond (.seq .leaf .leaf) .leaf)) (.seq .leaf .leaf))))))
theorem law01_BitsRules.eq (x0 : Int) (a1 : Int) (b2 : Int) (R : Value → Heap → Prop) (h : Heap) : law01_BitsRules.body x0 a1 b2 R h = evFn Try.prog Try.f5 law01_BitsRules.ann [(.int .u32 x0), (.int .u32 a1), (.int .u32 b2)] R h := by kernel_rfl
theorem law01_BitsRules.calls {x0 : Int} {a1 : Int} {b2 : Int} {R : Value → Heap → Prop} {h : Heap} (H : law01_BitsRules.body x0 a1 b2 R h) : HC Try.prog F.law01_BitsRules #[(.int .u32 x0), (.int .u32 a1), (.int .u32 b2)] R h :=
  evFn_sound mixed Try.func5 (by kernel_rfl) (law01_BitsRules.eq x0 a1 b2 R h ▸ H)

end Go.Proofs.Ytoehmgmiambcnaa
