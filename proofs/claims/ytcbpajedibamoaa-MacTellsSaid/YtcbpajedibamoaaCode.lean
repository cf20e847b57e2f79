import Derived.Test.YtcbpajedibamoaaSig
set_option linter.unusedVariables false
set_option maxRecDepth 100000
namespace Go.Proofs.Ytcbpajedibamoaa
open Go.Ev
/-! zugzwang/zugzwanglaw03.size -/
def law03_size.body (rows0 : Sl) (R : Value → Heap → Prop) (h : Heap) : Prop :=
  loopW (fun X_2 (s_1 : Int × Int) (h : Heap) =>
  if (decide (s_1.2 < ((rows0.n : Int)))) = true then
  if (decide (s_1.1 ≤ 700)) = true then
  idxK rows0 s_1.2 (sizeOfT Try.prog T.sl_uint8) (fun (a_3 : Addr) =>
  loadK .slice h ((some a_3)) (fun (v_4 : Sl) =>
  X_2 (IntKind.i64.wrap (s_1.1 + ((v_4.n : Int))), IntKind.i64.wrap (s_1.2 + 1)) h))
  else
  R (.int .i64 s_1.1) h
  else
  R (.int .i64 s_1.1) h) ((rows0.n : Int), 0) h
def law03_size.ann : Ann := (.seq .leaf (.seq .leaf (.seq (.seq .leaf (.block (.loop [(3, (.int .i64)), (4, (.int .i64))] (.seq (.seq .leaf (.cond .leaf .leaf)) (.seq (.block .leaf) .leaf))))) (.seq .leaf .leaf))))
theorem law03_size.eq (rows0 : Sl) (R : Value → Heap → Prop) (h : Heap) : law03_size.body rows0 R h = evFn Try.prog Try.f7 law03_size.ann [(.slice rows0.a rows0.n rows0.c)] R h := by kernel_rfl
theorem law03_size.calls {rows0 : Sl} {R : Value → Heap → Prop} {h : Heap} (H : law03_size.body rows0 R h) : HC Try.prog F.law03_size #[(.slice rows0.a rows0.n rows0.c)] R h :=
  evFn_sound mixed Try.func7 (by kernel_rfl) (law03_size.eq rows0 R h ▸ H)

/-! zugzwang/digest.begun -/
def digest_begun.body  (R : Value → Heap → Prop) (h : Heap) : Prop :=
  newK h (zerosOf Try.prog T.digest_state) T.digest_state (fun (v_1 : Option Addr) (h : Heap) =>
  buildK Try.prog (Instr.build T.digest_state #[(0, (.int .u32 1779033703)), (1, (.int .u32 3144134277)), (2, (.int .u32 1013904242)), (3, (.int .u32 2773480762)), (4, (.int .u32 1359893119)), (5, (.int .u32 2600822924)), (6, (.int .u32 528734635)), (7, (.int .u32 1541459225))]) (fun (v_2 : Array Value) =>
  storeAggK (sizeOfT Try.prog T.digest_state) h v_1 v_2 (fun (h : Heap) =>
  quietK Try.prog .agg (Instr.loadAt T.digest_state (.pointer v_1)) (fun (r_3 : Array Value) =>
  R (.agg r_3) h) h)))
def digest_begun.ann : Ann := (.seq .leaf (.seq .leaf .leaf))
theorem digest_begun.eq  (R : Value → Heap → Prop) (h : Heap) : digest_begun.body  R h = evFn Try.prog Try.f39 digest_begun.ann [] R h := by kernel_rfl
theorem digest_begun.calls  {R : Value → Heap → Prop} {h : Heap} (H : digest_begun.body  R h) : HC Try.prog F.digest_begun #[] R h :=
  evFn_sound mixed Try.func39 (by kernel_rfl) (digest_begun.eq  R h ▸ H)

/-! zugzwang/digest.New -/
def digest_New.body  (R : Value → Heap → Prop) (h : Heap) : Prop :=
  callK Try.prog .agg F.digest_begun #[] (fun (v_1 : Array Value) (h : Heap) =>
  buildK Try.prog (Instr.build T.digest_Hasher #[(0, (.agg v_1)), (3, (.bool true))]) (fun (v_2 : Array Value) =>
  newK h v_2 T.digest_Hasher (fun (v_3 : Option Addr) (h : Heap) =>
  R (.pointer v_3) h))) h
def digest_New.ann : Ann := (.seq .leaf (.seq .leaf .leaf))
theorem digest_New.eq  (R : Value → Heap → Prop) (h : Heap) : digest_New.body  R h = evFn Try.prog Try.f25 digest_New.ann [] R h := by kernel_rfl
theorem digest_New.calls  {R : Value → Heap → Prop} {h : Heap} (H : digest_New.body  R h) : HC Try.prog F.digest_New #[] R h :=
  evFn_sound mixed Try.func25 (by kernel_rfl) (digest_New.eq  R h ▸ H)

/-! slices.Clone[[]byte,byte] -/
def slices_Clone_byte_byte.body (s0 : Sl) (R : Value → Heap → Prop) (h : Heap) : Prop :=
  if s0.a.isNone = true then
  R (.slice none 0 0) h
  else
  newSlK h 0 #[] T.uint8 (fun (v_1 : Sl) (h : Heap) =>
  opK Try.prog .slice (Builtin.append_ #[T.sl_uint8, T.sl_uint8] T.sl_uint8 #[(.slice v_1.a v_1.n v_1.c), (.slice s0.a s0.n s0.c)]) (fun (v_2 : Sl) (h : Heap) =>
  R (.slice v_2.a v_2.n v_2.c) h) h)
def slices_Clone_byte_byte.ann : Ann := (.seq .leaf (.seq (.seq .leaf (.cond (.seq .leaf .leaf) .leaf)) (.seq .leaf .leaf)))
theorem slices_Clone_byte_byte.eq (s0 : Sl) (R : Value → Heap → Prop) (h : Heap) : slices_Clone_byte_byte.body s0 R h = evFn Try.prog Try.f41 slices_Clone_byte_byte.ann [(.slice s0.a s0.n s0.c)] R h := by kernel_rfl
theorem slices_Clone_byte_byte.calls {s0 : Sl} {R : Value → Heap → Prop} {h : Heap} (H : slices_Clone_byte_byte.body s0 R h) : HC Try.prog F.slices_Clone_byte_byte #[(.slice s0.a s0.n s0.c)] R h :=
  evFn_sound mixed Try.func41 (by kernel_rfl) (slices_Clone_byte_byte.eq s0 R h ▸ H)

/-! (*zugzwang/bits.row).take -/
def bits_row_take.body (r0 : Option Addr) (R : Value → Heap → Prop) (h : Heap) : Prop :=
  derefK r0 (fun (a_1 : Addr) =>
  fldK ((some a_1)) 0 (fun (a_2 : Addr) =>
  loadK .slice h ((some a_2)) (fun (v_3 : Sl) =>
  idxK v_3 0 (sizeOfT Try.prog T.uint8) (fun (a_4 : Addr) =>
  loadK (.int .u8) h ((some a_4)) (fun (v_5 : Int) =>
  shiftK 24
  (derefK r0 (fun (a_6 : Addr) =>
  fldK ((some a_6)) 0 (fun (a_7 : Addr) =>
  loadK .slice h ((some a_7)) (fun (v_8 : Sl) =>
  idxK v_8 1 (sizeOfT Try.prog T.uint8) (fun (a_9 : Addr) =>
  loadK (.int .u8) h ((some a_9)) (fun (v_10 : Int) =>
  shiftK 16
  (derefK r0 (fun (a_11 : Addr) =>
  fldK ((some a_11)) 0 (fun (a_12 : Addr) =>
  loadK .slice h ((some a_12)) (fun (v_13 : Sl) =>
  idxK v_13 2 (sizeOfT Try.prog T.uint8) (fun (a_14 : Addr) =>
  loadK (.int .u8) h ((some a_14)) (fun (v_15 : Int) =>
  shiftK 8
  (derefK r0 (fun (a_16 : Addr) =>
  fldK ((some a_16)) 0 (fun (a_17 : Addr) =>
  loadK .slice h ((some a_17)) (fun (v_18 : Sl) =>
  idxK v_18 3 (sizeOfT Try.prog T.uint8) (fun (a_19 : Addr) =>
  loadK (.int .u8) h ((some a_19)) (fun (v_20 : Int) =>
  derefK r0 (fun (a_21 : Addr) =>
  fldK ((some a_21)) 0 (fun (a_22 : Addr) =>
  loadK .slice h ((some a_22)) (fun (v_23 : Sl) =>
  sliceK v_23 (some 4) none none (sizeOfT Try.prog T.uint8) (fun (v_24 : Sl) =>
  derefK r0 (fun (a_25 : Addr) =>
  fldK ((some a_25)) 0 (fun (a_26 : Addr) =>
  storeK h ((some a_26)) (.slice v_24.a v_24.n v_24.c) (fun (h : Heap) =>
  R (.int .u32 (IntKind.u32.wrap (BitVec.ofInt (IntKind.bits .u32) (IntKind.u32.wrap (BitVec.ofInt (IntKind.bits .u32) (IntKind.u32.wrap (BitVec.ofInt (IntKind.bits .u32) (IntKind.u32.wrap ((IntKind.u32.wrap v_5) * 2 ^ min (Int.toNat 24) (IntKind.bits .u32))) ||| BitVec.ofInt (IntKind.bits .u32) (IntKind.u32.wrap ((IntKind.u32.wrap v_10) * 2 ^ min (Int.toNat 16) (IntKind.bits .u32)))).toNat) ||| BitVec.ofInt (IntKind.bits .u32) (IntKind.u32.wrap ((IntKind.u32.wrap v_15) * 2 ^ min (Int.toNat 8) (IntKind.bits .u32)))).toNat) ||| BitVec.ofInt (IntKind.bits .u32) (IntKind.u32.wrap v_20)).toNat)) h))))))))))))))))))))))))))))))
def bits_row_take.ann : Ann := (.seq .leaf (.seq .leaf (.seq .leaf (.seq .leaf .leaf))))
theorem bits_row_take.eq (r0 : Option Addr) (R : Value → Heap → Prop) (h : Heap) : bits_row_take.body r0 R h = evFn Try.prog Try.f57 bits_row_take.ann [(.pointer r0)] R h := by kernel_rfl
theorem bits_row_take.calls {r0 : Option Addr} {R : Value → Heap → Prop} {h : Heap} (H : bits_row_take.body r0 R h) : HC Try.prog F.bits_row_take #[(.pointer r0)] R h :=
  evFn_sound mixed Try.func57 (by kernel_rfl) (bits_row_take.eq r0 R h ▸ H)

/-! zugzwang/bits.Words -/
def bits_Words.body (b0 : Sl) (R : Value → Heap → Prop) (h : Heap) : Prop :=
  divK 4
  (if ((Int.tmod ((b0.n : Int)) 4) != 0) = true then
  R (.tuple #[(.slice none 0 0), (.int .i64 4)]) h
  else
  callK Try.prog .slice F.slices_Clone_byte_byte #[(.slice b0.a b0.n b0.c)] (fun (v_1 : Sl) (h : Heap) =>
  buildK Try.prog (Instr.build T.bits_row #[(0, (.slice v_1.a v_1.n v_1.c))]) (fun (v_2 : Array Value) =>
  buildK Try.prog (Instr.build T.bits_reader #[(0, (.agg v_2))]) (fun (v_3 : Array Value) =>
  newK h (zerosOf Try.prog T.bits_reader) T.bits_reader (fun (r_4 : Option Addr) (h : Heap) =>
  storeAggK (sizeOfT Try.prog T.bits_reader) h r_4 v_3 (fun (h : Heap) =>
  divK 4
  (loopW (fun X_6 (s_5 : Int) (h : Heap) =>
  if (decide (s_5 < (IntKind.i64.wrap (Int.tdiv ((b0.n : Int)) 4)))) = true then
  fldK r_4 1 (fun (a_7 : Addr) =>
  fldK r_4 0 (fun (a_8 : Addr) =>
  loadK .slice h ((some a_7)) (fun (v_9 : Sl) =>
  callK Try.prog (.int .u32) F.bits_row_take #[(.pointer ((some a_8)))] (fun (v_10 : Int) (h : Heap) =>
  stillK .slice h ((some a_7)) v_9 ∧
  newSlK h 1 #[(.int .u32 v_10)] T.uint32 (fun (v_11 : Sl) (h : Heap) =>
  opK Try.prog .slice (Builtin.append_ #[T.sl_uint32, T.sl_uint32] T.sl_uint32 #[(.slice v_9.a v_9.n v_9.c), (.slice v_11.a v_11.n v_11.c)]) (fun (v_12 : Sl) (h : Heap) =>
  fldK r_4 1 (fun (a_13 : Addr) =>
  storeK h ((some a_13)) (.slice v_12.a v_12.n v_12.c) (fun (h : Heap) =>
  X_6 (IntKind.i64.wrap (s_5 + 1)) h))) h)) h)))
  else
  fldK r_4 1 (fun (a_14 : Addr) =>
  loadK .slice h ((some a_14)) (fun (v_15 : Sl) =>
  R (.tuple #[(.slice v_15.a v_15.n v_15.c), (.int .i64 0)]) h))) 0 h)))))) h)
def bits_Words.ann : Ann := (.seq .leaf (.seq (.seq .leaf (.cond (.seq .leaf .leaf) .leaf)) (.seq .leaf (.seq (.seq .leaf (.block (.loop [(16, (.int .i64))] (.seq .leaf (.seq (.cond .leaf .leaf) (.seq (.block (.any (.loc 0 (.loc 2 (.st 1 224 (.last 3 (.last 4 (.last 5 (.loc 6 (.last 7 .done)))))))))) .leaf)))))) (.seq .leaf .leaf)))))
theorem bits_Words.eq (b0 : Sl) (R : Value → Heap → Prop) (h : Heap) : bits_Words.body b0 R h = evFn Try.prog Try.f49 bits_Words.ann [(.slice b0.a b0.n b0.c)] R h := by kernel_rfl
theorem bits_Words.calls {b0 : Sl} {R : Value → Heap → Prop} {h : Heap} (H : bits_Words.body b0 R h) : HC Try.prog F.bits_Words #[(.slice b0.a b0.n b0.c)] R h :=
  evFn_sound mixed Try.func49 (by kernel_rfl) (bits_Words.eq b0 R h ▸ H)

/-! math/bits.RotateLeft32 -/
def math_bits_RotateLeft32.body (x0 : Int) (k1 : Int) (R : Value → Heap → Prop) (h : Heap) : Prop :=
  shiftK (IntKind.u64.wrap (BitVec.ofInt (IntKind.bits .u64) (IntKind.u64.wrap k1) &&& BitVec.ofInt (IntKind.bits .u64) 31).toNat)
  (shiftK (IntKind.u64.wrap (32 - (IntKind.u64.wrap (BitVec.ofInt (IntKind.bits .u64) (IntKind.u64.wrap k1) &&& BitVec.ofInt (IntKind.bits .u64) 31).toNat)))
  (R (.int .u32 (IntKind.u32.wrap (BitVec.ofInt (IntKind.bits .u32) (IntKind.u32.wrap (x0 * 2 ^ min (Int.toNat (IntKind.u64.wrap (BitVec.ofInt (IntKind.bits .u64) (IntKind.u64.wrap k1) &&& BitVec.ofInt (IntKind.bits .u64) 31).toNat)) (IntKind.bits .u32))) ||| BitVec.ofInt (IntKind.bits .u32) (Int.fdiv x0 (2 ^ min (Int.toNat (IntKind.u64.wrap (32 - (IntKind.u64.wrap (BitVec.ofInt (IntKind.bits .u64) (IntKind.u64.wrap k1) &&& BitVec.ofInt (IntKind.bits .u64) 31).toNat)))) (IntKind.bits .u32)))).toNat)) h))
def math_bits_RotateLeft32.ann : Ann := (.seq .leaf (.seq .leaf (.seq .leaf .leaf)))
theorem math_bits_RotateLeft32.eq (x0 : Int) (k1 : Int) (R : Value → Heap → Prop) (h : Heap) : math_bits_RotateLeft32.body x0 k1 R h = evFn Try.prog Try.f60 math_bits_RotateLeft32.ann [(.int .u32 x0), (.int .i64 k1)] R h := by kernel_rfl
theorem math_bits_RotateLeft32.calls {x0 : Int} {k1 : Int} {R : Value → Heap → Prop} {h : Heap} (H : math_bits_RotateLeft32.body x0 k1 R h) : HC Try.prog F.math_bits_RotateLeft32 #[(.int .u32 x0), (.int .i64 k1)] R h :=
  evFn_sound mixed Try.func60 (by kernel_rfl) (math_bits_RotateLeft32.eq x0 k1 R h ▸ H)

/-! zugzwang/bits.Turn -/
def bits_Turn.body (x0 : Int) (n1 : Int) (R : Value → Heap → Prop) (h : Heap) : Prop :=
  divK 32
  (callK Try.prog (.int .u32) F.math_bits_RotateLeft32 #[(.int .u32 x0), (.int .i64 (IntKind.i64.wrap (0 - (Int.tmod n1 32))))] (fun (v_1 : Int) (h : Heap) =>
  R (.int .u32 v_1) h) h)
def bits_Turn.ann : Ann := (.seq .leaf (.seq .leaf .leaf))
theorem bits_Turn.eq (x0 : Int) (n1 : Int) (R : Value → Heap → Prop) (h : Heap) : bits_Turn.body x0 n1 R h = evFn Try.prog Try.f58 bits_Turn.ann [(.int .u32 x0), (.int .i64 n1)] R h := by kernel_rfl
theorem bits_Turn.calls {x0 : Int} {n1 : Int} {R : Value → Heap → Prop} {h : Heap} (H : bits_Turn.body x0 n1 R h) : HC Try.prog F.bits_Turn #[(.int .u32 x0), (.int .i64 n1)] R h :=
  evFn_sound mixed Try.func58 (by kernel_rfl) (bits_Turn.eq x0 n1 R h ▸ H)

/-! zugzwang/bits.Mix -/
def bits_Mix.body (x0 : Int) (turns1 : Sl) (R : Value → Heap → Prop) (h : Heap) : Prop :=
  loopW (fun X_2 (s_1 : Int × Int) (h : Heap) =>
  if (decide (s_1.2 < ((turns1.n : Int)))) = true then
  idxK turns1 s_1.2 (sizeOfT Try.prog T.int) (fun (a_3 : Addr) =>
  loadK (.int .i64) h ((some a_3)) (fun (v_4 : Int) =>
  callK Try.prog (.int .u32) F.bits_Turn #[(.int .u32 x0), (.int .i64 v_4)] (fun (v_5 : Int) (h : Heap) =>
  X_2 (IntKind.u32.wrap (BitVec.ofInt (IntKind.bits .u32) s_1.1 ^^^ BitVec.ofInt (IntKind.bits .u32) v_5).toNat, IntKind.i64.wrap (s_1.2 + 1)) h) h))
  else
  R (.int .u32 s_1.1) h) (0, 0) h
def bits_Mix.ann : Ann := (.seq .leaf (.seq (.seq .leaf (.block (.loop [(4, (.int .u32)), (9, (.int .i64))] (.seq .leaf (.seq (.cond .leaf .leaf) (.seq (.block (.seq .leaf .leaf)) .leaf)))))) (.seq .leaf .leaf)))
theorem bits_Mix.eq (x0 : Int) (turns1 : Sl) (R : Value → Heap → Prop) (h : Heap) : bits_Mix.body x0 turns1 R h = evFn Try.prog Try.f50 bits_Mix.ann [(.int .u32 x0), (.slice turns1.a turns1.n turns1.c)] R h := by kernel_rfl
theorem bits_Mix.calls {x0 : Int} {turns1 : Sl} {R : Value → Heap → Prop} {h : Heap} (H : bits_Mix.body x0 turns1 R h) : HC Try.prog F.bits_Mix #[(.int .u32 x0), (.slice turns1.a turns1.n turns1.c)] R h :=
  evFn_sound mixed Try.func50 (by kernel_rfl) (bits_Mix.eq x0 turns1 R h ▸ H)

/-! zugzwang/bits.Shift -/
def bits_Shift.body (x0 : Int) (n1 : Int) (R : Value → Heap → Prop) (h : Heap) : Prop :=
  shiftK (if n1 < 0 then 0 else n1)
  (R (.int .u32 (Int.fdiv x0 (2 ^ min (Int.toNat (if n1 < 0 then 0 else n1)) (IntKind.bits .u32)))) h)
def bits_Shift.ann : Ann := (.seq .leaf (.seq .leaf .leaf))
theorem bits_Shift.eq (x0 : Int) (n1 : Int) (R : Value → Heap → Prop) (h : Heap) : bits_Shift.body x0 n1 R h = evFn Try.prog Try.f51 bits_Shift.ann [(.int .u32 x0), (.int .i64 n1)] R h := by kernel_rfl
theorem bits_Shift.calls {x0 : Int} {n1 : Int} {R : Value → Heap → Prop} {h : Heap} (H : bits_Shift.body x0 n1 R h) : HC Try.prog F.bits_Shift #[(.int .u32 x0), (.int .i64 n1)] R h :=
  evFn_sound mixed Try.func51 (by kernel_rfl) (bits_Shift.eq x0 n1 R h ▸ H)

/-! zugzwang/bits.Sum -/
def bits_Sum.body (words0 : Sl) (R : Value → Heap → Prop) (h : Heap) : Prop :=
  loopW (fun X_2 (s_1 : Int × Int) (h : Heap) =>
  if (decide (s_1.2 < ((words0.n : Int)))) = true then
  idxK words0 s_1.2 (sizeOfT Try.prog T.uint32) (fun (a_3 : Addr) =>
  loadK (.int .u32) h ((some a_3)) (fun (v_4 : Int) =>
  X_2 (IntKind.u32.wrap (s_1.1 + v_4), IntKind.i64.wrap (s_1.2 + 1)) h))
  else
  R (.int .u32 s_1.1) h) (0, 0) h
def bits_Sum.ann : Ann := (.seq .leaf (.seq (.seq .leaf (.block (.loop [(2, (.int .u32)), (7, (.int .i64))] (.seq .leaf (.seq (.cond .leaf .leaf) (.seq (.block (.seq .leaf .leaf)) .leaf)))))) (.seq .leaf .leaf)))
theorem bits_Sum.eq (words0 : Sl) (R : Value → Heap → Prop) (h : Heap) : bits_Sum.body words0 R h = evFn Try.prog Try.f52 bits_Sum.ann [(.slice words0.a words0.n words0.c)] R h := by kernel_rfl
theorem bits_Sum.calls {words0 : Sl} {R : Value → Heap → Prop} {h : Heap} (H : bits_Sum.body words0 R h) : HC Try.prog F.bits_Sum #[(.slice words0.a words0.n words0.c)] R h :=
  evFn_sound mixed Try.func52 (by kernel_rfl) (bits_Sum.eq words0 R h ▸ H)

/-! zugzwang/digest.constants -/
def digest_constants.body  (R : Value → Heap → Prop) (h : Heap) : Prop :=
  newK h (zerosOf Try.prog T.a64_uint32) T.a64_uint32 (fun (v_1 : Option Addr) (h : Heap) =>
  buildK Try.prog (Instr.build T.a64_uint32 #[(0, (.int .u32 1116352408)), (1, (.int .u32 1899447441)), (2, (.int .u32 3049323471)), (3, (.int .u32 3921009573)), (4, (.int .u32 961987163)), (5, (.int .u32 1508970993)), (6, (.int .u32 2453635748)), (7, (.int .u32 2870763221)), (8, (.int .u32 3624381080)), (9, (.int .u32 310598401)), (10, (.int .u32 607225278)), (11, (.int .u32 1426881987)), (12, (.int .u32 1925078388)), (13, (.int .u32 2162078206)), (14, (.int .u32 2614888103)), (15, (.int .u32 3248222580)), (16, (.int .u32 3835390401)), (17, (.int .u32 4022224774)), (18, (.int .u32 264347078)), (19, (.int .u32 604807628)), (20, (.int .u32 770255983)), (21, (.int .u32 1249150122)), (22, (.int .u32 1555081692)), (23, (.int .u32 1996064986)), (24, (.int .u32 2554220882)), (25, (.int .u32 2821834349)), (26, (.int .u32 2952996808)), (27, (.int .u32 3210313671)), (28, (.int .u32 3336571891)), (29, (.int .u32 3584528711)), (30, (.int .u32 113926993)), (31, (.int .u32 338241895)), (32, (.int .u32 666307205)), (33, (.int .u32 773529912)), (34, (.int .u32 1294757372)), (35, (.int .u32 1396182291)), (36, (.int .u32 1695183700)), (37, (.int .u32 1986661051)), (38, (.int .u32 2177026350)), (39, (.int .u32 2456956037)), (40, (.int .u32 2730485921)), (41, (.int .u32 2820302411)), (42, (.int .u32 3259730800)), (43, (.int .u32 3345764771)), (44, (.int .u32 3516065817)), (45, (.int .u32 3600352804)), (46, (.int .u32 4094571909)), (47, (.int .u32 275423344)), (48, (.int .u32 430227734)), (49, (.int .u32 506948616)), (50, (.int .u32 659060556)), (51, (.int .u32 883997877)), (52, (.int .u32 958139571)), (53, (.int .u32 1322822218)), (54, (.int .u32 1537002063)), (55, (.int .u32 1747873779)), (56, (.int .u32 1955562222)), (57, (.int .u32 2024104815)), (58, (.int .u32 2227730452)), (59, (.int .u32 2361852424)), (60, (.int .u32 2428436474)), (61, (.int .u32 2756734187)), (62, (.int .u32 3204031479)), (63, (.int .u32 3329325298))]) (fun (v_2 : Array Value) =>
  storeAggK (sizeOfT Try.prog T.a64_uint32) h v_1 v_2 (fun (h : Heap) =>
  quietK Try.prog .agg (Instr.loadAt T.a64_uint32 (.pointer v_1)) (fun (r_3 : Array Value) =>
  R (.agg r_3) h) h)))
def digest_constants.ann : Ann := (.seq .leaf (.seq .leaf .leaf))
theorem digest_constants.eq  (R : Value → Heap → Prop) (h : Heap) : digest_constants.body  R h = evFn Try.prog Try.f53 digest_constants.ann [] R h := by kernel_rfl
theorem digest_constants.calls  {R : Value → Heap → Prop} {h : Heap} (H : digest_constants.body  R h) : HC Try.prog F.digest_constants #[] R h :=
  evFn_sound mixed Try.func53 (by kernel_rfl) (digest_constants.eq  R h ▸ H)

/-! zugzwang/bits.Choose -/
def bits_Choose.body (x0 : Int) (a1 : Int) (b2 : Int) (R : Value → Heap → Prop) (h : Heap) : Prop :=
  R (.int .u32 (IntKind.u32.wrap (BitVec.ofInt (IntKind.bits .u32) b2 ^^^ BitVec.ofInt (IntKind.bits .u32) (IntKind.u32.wrap (BitVec.ofInt (IntKind.bits .u32) x0 &&& BitVec.ofInt (IntKind.bits .u32) (IntKind.u32.wrap (BitVec.ofInt (IntKind.bits .u32) a1 ^^^ BitVec.ofInt (IntKind.bits .u32) b2).toNat)).toNat)).toNat)) h
def bits_Choose.ann : Ann := (.seq .leaf (.seq .leaf .leaf))
theorem bits_Choose.eq (x0 : Int) (a1 : Int) (b2 : Int) (R : Value → Heap → Prop) (h : Heap) : bits_Choose.body x0 a1 b2 R h = evFn Try.prog Try.f59 bits_Choose.ann [(.int .u32 x0), (.int .u32 a1), (.int .u32 b2)] R h := by kernel_rfl
theorem bits_Choose.calls {x0 : Int} {a1 : Int} {b2 : Int} {R : Value → Heap → Prop} {h : Heap} (H : bits_Choose.body x0 a1 b2 R h) : HC Try.prog F.bits_Choose #[(.int .u32 x0), (.int .u32 a1), (.int .u32 b2)] R h :=
  evFn_sound mixed Try.func59 (by kernel_rfl) (bits_Choose.eq x0 a1 b2 R h ▸ H)

/-! (*zugzwang/digest.state).step -/
def digest_state_step.body (s0 : Option Addr) (w1 : Int) (k2 : Int) (R : Value → Heap → Prop) (h : Heap) : Prop :=
  derefK s0 (fun (a_1 : Addr) =>
  idxArrK ((some a_1)) 8 7 (sizeOfT Try.prog T.uint32) (fun (a_2 : Addr) =>
  derefK s0 (fun (a_3 : Addr) =>
  idxArrK ((some a_3)) 8 4 (sizeOfT Try.prog T.uint32) (fun (a_4 : Addr) =>
  derefK s0 (fun (a_5 : Addr) =>
  idxArrK ((some a_5)) 8 4 (sizeOfT Try.prog T.uint32) (fun (a_6 : Addr) =>
  derefK s0 (fun (a_7 : Addr) =>
  idxArrK ((some a_7)) 8 5 (sizeOfT Try.prog T.uint32) (fun (a_8 : Addr) =>
  derefK s0 (fun (a_9 : Addr) =>
  idxArrK ((some a_9)) 8 6 (sizeOfT Try.prog T.uint32) (fun (a_10 : Addr) =>
  loadK (.int .u32) h ((some a_2)) (fun (v_11 : Int) =>
  loadK (.int .u32) h ((some a_4)) (fun (v_12 : Int) =>
  loadK (.int .u32) h ((some a_6)) (fun (v_13 : Int) =>
  loadK (.int .u32) h ((some a_8)) (fun (v_14 : Int) =>
  loadK (.int .u32) h ((some a_10)) (fun (v_15 : Int) =>
  newSlK h 3 #[(.int .i64 6), (.int .i64 11), (.int .i64 25)] T.int (fun (v_16 : Sl) (h : Heap) =>
  callK Try.prog (.int .u32) F.bits_Mix #[(.int .u32 v_12), (.slice v_16.a v_16.n v_16.c)] (fun (v_17 : Int) (h : Heap) =>
  stillK (.int .u32) h ((some a_10)) v_15 ∧
  stillK (.int .u32) h ((some a_8)) v_14 ∧
  stillK (.int .u32) h ((some a_6)) v_13 ∧
  stillK (.int .u32) h ((some a_2)) v_11 ∧
  callK Try.prog (.int .u32) F.bits_Choose #[(.int .u32 v_13), (.int .u32 v_14), (.int .u32 v_15)] (fun (v_18 : Int) (h : Heap) =>
  stillK (.int .u32) h ((some a_2)) v_11 ∧
  newSlK h 5 #[(.int .u32 v_11), (.int .u32 v_17), (.int .u32 v_18), (.int .u32 k2), (.int .u32 w1)] T.uint32 (fun (v_19 : Sl) (h : Heap) =>
  callK Try.prog (.int .u32) F.bits_Sum #[(.slice v_19.a v_19.n v_19.c)] (fun (v_20 : Int) (h : Heap) =>
  derefK s0 (fun (a_21 : Addr) =>
  idxArrK ((some a_21)) 8 0 (sizeOfT Try.prog T.uint32) (fun (a_22 : Addr) =>
  derefK s0 (fun (a_23 : Addr) =>
  idxArrK ((some a_23)) 8 0 (sizeOfT Try.prog T.uint32) (fun (a_24 : Addr) =>
  derefK s0 (fun (a_25 : Addr) =>
  idxArrK ((some a_25)) 8 1 (sizeOfT Try.prog T.uint32) (fun (a_26 : Addr) =>
  derefK s0 (fun (a_27 : Addr) =>
  idxArrK ((some a_27)) 8 0 (sizeOfT Try.prog T.uint32) (fun (a_28 : Addr) =>
  derefK s0 (fun (a_29 : Addr) =>
  idxArrK ((some a_29)) 8 2 (sizeOfT Try.prog T.uint32) (fun (a_30 : Addr) =>
  derefK s0 (fun (a_31 : Addr) =>
  idxArrK ((some a_31)) 8 1 (sizeOfT Try.prog T.uint32) (fun (a_32 : Addr) =>
  derefK s0 (fun (a_33 : Addr) =>
  idxArrK ((some a_33)) 8 2 (sizeOfT Try.prog T.uint32) (fun (a_34 : Addr) =>
  loadK (.int .u32) h ((some a_22)) (fun (v_35 : Int) =>
  loadK (.int .u32) h ((some a_24)) (fun (v_36 : Int) =>
  loadK (.int .u32) h ((some a_26)) (fun (v_37 : Int) =>
  loadK (.int .u32) h ((some a_28)) (fun (v_38 : Int) =>
  loadK (.int .u32) h ((some a_30)) (fun (v_39 : Int) =>
  loadK (.int .u32) h ((some a_32)) (fun (v_40 : Int) =>
  loadK (.int .u32) h ((some a_34)) (fun (v_41 : Int) =>
  newSlK h 3 #[(.int .i64 2), (.int .i64 13), (.int .i64 22)] T.int (fun (v_42 : Sl) (h : Heap) =>
  callK Try.prog (.int .u32) F.bits_Mix #[(.int .u32 v_35), (.slice v_42.a v_42.n v_42.c)] (fun (v_43 : Int) (h : Heap) =>
  stillK (.int .u32) h ((some a_34)) v_41 ∧
  stillK (.int .u32) h ((some a_32)) v_40 ∧
  stillK (.int .u32) h ((some a_30)) v_39 ∧
  stillK (.int .u32) h ((some a_28)) v_38 ∧
  stillK (.int .u32) h ((some a_26)) v_37 ∧
  stillK (.int .u32) h ((some a_24)) v_36 ∧
  newSlK h 2 #[(.int .u32 v_43), (.int .u32 (IntKind.u32.wrap (BitVec.ofInt (IntKind.bits .u32) (IntKind.u32.wrap (BitVec.ofInt (IntKind.bits .u32) (IntKind.u32.wrap (BitVec.ofInt (IntKind.bits .u32) v_36 &&& BitVec.ofInt (IntKind.bits .u32) v_37).toNat) ||| BitVec.ofInt (IntKind.bits .u32) (IntKind.u32.wrap (BitVec.ofInt (IntKind.bits .u32) v_38 &&& BitVec.ofInt (IntKind.bits .u32) v_39).toNat)).toNat) ||| BitVec.ofInt (IntKind.bits .u32) (IntKind.u32.wrap (BitVec.ofInt (IntKind.bits .u32) v_40 &&& BitVec.ofInt (IntKind.bits .u32) v_41).toNat)).toNat))] T.uint32 (fun (v_44 : Sl) (h : Heap) =>
  callK Try.prog (.int .u32) F.bits_Sum #[(.slice v_44.a v_44.n v_44.c)] (fun (v_45 : Int) (h : Heap) =>
  derefK s0 (fun (a_46 : Addr) =>
  sliceArrK ((some a_46)) 8 (some 1) none none (sizeOfT Try.prog T.uint32) (fun (v_47 : Sl) =>
  derefK s0 (fun (a_48 : Addr) =>
  sliceArrK ((some a_48)) 8 none (some 7) none (sizeOfT Try.prog T.uint32) (fun (v_49 : Sl) =>
  opK Try.prog (.int .i64) (Builtin.copy_ #[T.sl_uint32, T.sl_uint32] T.int #[(.slice v_47.a v_47.n v_47.c), (.slice v_49.a v_49.n v_49.c)]) (fun (v_50 : Int) (h : Heap) =>
  derefK s0 (fun (a_51 : Addr) =>
  idxArrK ((some a_51)) 8 4 (sizeOfT Try.prog T.uint32) (fun (a_52 : Addr) =>
  derefK s0 (fun (a_53 : Addr) =>
  loadK (.int .u32) h ((some a_52)) (fun (v_54 : Int) =>
  idxArrK ((some a_53)) 8 4 (sizeOfT Try.prog T.uint32) (fun (a_55 : Addr) =>
  storeK h ((some a_55)) (.int .u32 (IntKind.u32.wrap (v_54 + v_20))) (fun (h : Heap) =>
  derefK s0 (fun (a_56 : Addr) =>
  idxArrK ((some a_56)) 8 0 (sizeOfT Try.prog T.uint32) (fun (a_57 : Addr) =>
  storeK h ((some a_57)) (.int .u32 (IntKind.u32.wrap (v_20 + v_45))) (fun (h : Heap) =>
  R (.tuple #[]) h)))))))))) h))))) h)) h))))))))))))))))))))))) h)) h) h))))))))))))))))
def digest_state_step.ann : Ann := (.seq (.any (.loc 0 (.loc 1 (.loc 2 (.loc 4 (.loc 5 (.loc 6 (.loc 10 (.loc 11 (.loc 12 (.loc 14 (.loc 15 (.loc 16 (.loc 18 (.loc 19 (.loc 20 (.loc 23 (.loc 24 (.st 3 234881024 (.st 7 239075840 (.st 13 239075328 (.st 17 239075328 (.st 21 239075328 (.last 8 (.last 9 (.last 22 (.last 25 (.last 26 (.loc 27 .done))))))))))))))))))))))))))))) (.seq (.any (.loc 0 (.loc 1 (.loc 2 (.loc 6 (.loc 7 (.loc 8 (.loc 10 (.loc 11 (.loc 12 (.loc 15 (.loc 16 (.loc 17 (.loc 19 (.loc 20 (.loc 21 (.loc 25 (.loc 26 (.loc 27 (.loc 29 (.loc 30 (.loc 31 (.st 3 240518168608 (.st 9 257714831360 (.st 13 257714831360 (.loc 14 (.st 18 257723203584 (.st 22 257723203584 (.loc 23 (.loc 24 (.st 28 266287972352 (.st 32 266287972352 (.loc 33 (.loc 34 (.last 4 (.last 5 (.last 35 (.last 36 (.loc 37 .done))))))))))))))))))))))))))))))))))))))) (.seq (.any (.loc 0 (.loc 1 (.loc 2 (.loc 3 (.loc 4 (.loc 5 (.last 6 .done)))))))) (.seq (.any (.loc 0 (.loc 1 (.loc 2 (.loc 4 (.loc 6 (.st 3 416 (.loc 5 (.loc 7 (.last 8 .done)))))))))) .leaf))))
theorem digest_state_step.eq (s0 : Option Addr) (w1 : Int) (k2 : Int) (R : Value → Heap → Prop) (h : Heap) : digest_state_step.body s0 w1 k2 R h = evFn Try.prog Try.f54 digest_state_step.ann [(.pointer s0), (.int .u32 w1), (.int .u32 k2)] R h := by kernel_rfl
theorem digest_state_step.calls {s0 : Option Addr} {w1 : Int} {k2 : Int} {R : Value → Heap → Prop} {h : Heap} (H : digest_state_step.body s0 w1 k2 R h) : HC Try.prog F.digest_state_step #[(.pointer s0), (.int .u32 w1), (.int .u32 k2)] R h :=
  evFn_sound mixed Try.func54 (by kernel_rfl) (digest_state_step.eq s0 w1 k2 R h ▸ H)

/-! (*zugzwang/digest.state).take -/
def digest_state_take.body (s0 : Option Addr) (b1 : Sl) (R : Value → Heap → Prop) (h : Heap) : Prop :=
  newK h (zerosOf Try.prog T.a64_uint32) T.a64_uint32 (fun (w_1 : Option Addr) (h : Heap) =>
  callK Try.prog (Kd.pair .slice (.int .i64)) F.bits_Words #[(.slice b1.a b1.n b1.c)] (fun (v_2 : Sl × Int) (h : Heap) =>
  sliceArrK w_1 64 none none none (sizeOfT Try.prog T.uint32) (fun (v_3 : Sl) =>
  opK Try.prog (.int .i64) (Builtin.copy_ #[T.sl_uint32, T.sl_uint32] T.int #[(.slice v_3.a v_3.n v_3.c), (.slice v_2.1.a v_2.1.n v_2.1.c)]) (fun (v_4 : Int) (h : Heap) =>
  loopW (fun X_6 (s_5 : Int) (h : Heap) =>
  if (decide (s_5 < 64)) = true then
  idxArrK w_1 64 (IntKind.i64.wrap (s_5 - 15)) (sizeOfT Try.prog T.uint32) (fun (a_7 : Addr) =>
  idxArrK w_1 64 (IntKind.i64.wrap (s_5 - 15)) (sizeOfT Try.prog T.uint32) (fun (a_8 : Addr) =>
  loadK (.int .u32) h ((some a_7)) (fun (v_9 : Int) =>
  loadK (.int .u32) h ((some a_8)) (fun (v_10 : Int) =>
  newSlK h 2 #[(.int .i64 7), (.int .i64 18)] T.int (fun (v_11 : Sl) (h : Heap) =>
  callK Try.prog (.int .u32) F.bits_Mix #[(.int .u32 v_9), (.slice v_11.a v_11.n v_11.c)] (fun (v_12 : Int) (h : Heap) =>
  stillK (.int .u32) h ((some a_8)) v_10 ∧
  callK Try.prog (.int .u32) F.bits_Shift #[(.int .u32 v_10), (.int .i64 3)] (fun (v_13 : Int) (h : Heap) =>
  idxArrK w_1 64 (IntKind.i64.wrap (s_5 - 2)) (sizeOfT Try.prog T.uint32) (fun (a_14 : Addr) =>
  idxArrK w_1 64 (IntKind.i64.wrap (s_5 - 2)) (sizeOfT Try.prog T.uint32) (fun (a_15 : Addr) =>
  loadK (.int .u32) h ((some a_14)) (fun (v_16 : Int) =>
  loadK (.int .u32) h ((some a_15)) (fun (v_17 : Int) =>
  newSlK h 2 #[(.int .i64 17), (.int .i64 19)] T.int (fun (v_18 : Sl) (h : Heap) =>
  callK Try.prog (.int .u32) F.bits_Mix #[(.int .u32 v_16), (.slice v_18.a v_18.n v_18.c)] (fun (v_19 : Int) (h : Heap) =>
  stillK (.int .u32) h ((some a_15)) v_17 ∧
  callK Try.prog (.int .u32) F.bits_Shift #[(.int .u32 v_17), (.int .i64 10)] (fun (v_20 : Int) (h : Heap) =>
  idxArrK w_1 64 (IntKind.i64.wrap (s_5 - 16)) (sizeOfT Try.prog T.uint32) (fun (a_21 : Addr) =>
  idxArrK w_1 64 (IntKind.i64.wrap (s_5 - 7)) (sizeOfT Try.prog T.uint32) (fun (a_22 : Addr) =>
  loadK (.int .u32) h ((some a_21)) (fun (v_23 : Int) =>
  loadK (.int .u32) h ((some a_22)) (fun (v_24 : Int) =>
  newSlK h 4 #[(.int .u32 v_23), (.int .u32 (IntKind.u32.wrap (BitVec.ofInt (IntKind.bits .u32) v_12 ^^^ BitVec.ofInt (IntKind.bits .u32) v_13).toNat)), (.int .u32 v_24), (.int .u32 (IntKind.u32.wrap (BitVec.ofInt (IntKind.bits .u32) v_19 ^^^ BitVec.ofInt (IntKind.bits .u32) v_20).toNat))] T.uint32 (fun (v_25 : Sl) (h : Heap) =>
  callK Try.prog (.int .u32) F.bits_Sum #[(.slice v_25.a v_25.n v_25.c)] (fun (v_26 : Int) (h : Heap) =>
  idxArrK w_1 64 s_5 (sizeOfT Try.prog T.uint32) (fun (a_27 : Addr) =>
  storeK h ((some a_27)) (.int .u32 v_26) (fun (h : Heap) =>
  X_6 (IntKind.i64.wrap (s_5 + 1)) h))) h)))))) h) h)))))) h) h)))))
  else
  derefK s0 (fun (a_28 : Addr) =>
  loadAggK (sizeOfT Try.prog T.digest_state) h ((some a_28)) (fun (v_29 : Array Value) =>
  newK h (zerosOf Try.prog T.digest_state) T.digest_state (fun (was_30 : Option Addr) (h : Heap) =>
  storeAggK (sizeOfT Try.prog T.digest_state) h was_30 v_29 (fun (h : Heap) =>
  callK Try.prog .agg F.digest_constants #[] (fun (v_31 : Array Value) (h : Heap) =>
  loopW (fun X_33 (s_32 : Int) (h : Heap) =>
  if (decide (s_32 < 64)) = true then
  idxValK (.int .u32) v_31 64 s_32 (sizeOfT Try.prog T.uint32) (fun (v_34 : Int) =>
  idxArrK w_1 64 s_32 (sizeOfT Try.prog T.uint32) (fun (a_35 : Addr) =>
  loadK (.int .u32) h ((some a_35)) (fun (v_36 : Int) =>
  callK Try.prog .unit F.digest_state_step #[(.pointer s0), (.int .u32 v_36), (.int .u32 v_34)] (fun (v_37 : Unit) (h : Heap) =>
  X_33 (IntKind.i64.wrap (s_32 + 1)) h) h)))
  else
  loopW (fun X_39 (s_38 : Int) (h : Heap) =>
  if (decide (s_38 < 8)) = true then
  derefK s0 (fun (a_40 : Addr) =>
  idxArrK ((some a_40)) 8 s_38 (sizeOfT Try.prog T.uint32) (fun (a_41 : Addr) =>
  idxArrK was_30 8 s_38 (sizeOfT Try.prog T.uint32) (fun (a_42 : Addr) =>
  derefK s0 (fun (a_43 : Addr) =>
  loadK (.int .u32) h ((some a_41)) (fun (v_44 : Int) =>
  loadK (.int .u32) h ((some a_42)) (fun (v_45 : Int) =>
  idxArrK ((some a_43)) 8 s_38 (sizeOfT Try.prog T.uint32) (fun (a_46 : Addr) =>
  storeK h ((some a_46)) (.int .u32 (IntKind.u32.wrap (v_44 + v_45))) (fun (h : Heap) =>
  X_39 (IntKind.i64.wrap (s_38 + 1)) h))))))))
  else
  R (.tuple #[]) h) 0 h) 0 h) h))))) 16 h) h)) h)
def digest_state_take.ann : Ann := (.seq .leaf (.seq .leaf (.seq .leaf (.seq (.seq .leaf (.block (.loop [(7, (.int .i64))] (.seq (.seq .leaf (.cond .leaf .leaf)) (.seq (.block (.seq (.any (.loc 0 (.loc 1 (.loc 2 (.loc 6 (.loc 7 (.loc 8 (.st 3 7200 (.st 9 7168 (.last 4 (.last 5 (.last 10 (.loc 11 (.loc 12 .done)))))))))))))) (.seq (.any (.loc 0 (.loc 1 (.loc 2 (.loc 6 (.loc 7 (.loc 8 (.st 3 7200 (.st 9 7168 (.last 4 (.last 5 (.last 10 (.loc 11 (.loc 12 .done)))))))))))))) (.any (.loc 0 (.loc 1 (.loc 2 (.loc 3 (.loc 5 (.loc 6 (.loc 7 (.loc 8 (.loc 10 (.st 4 30720 (.st 9 30720 (.last 11 (.last 12 (.loc 13 (.last 14 .done))))))))))))))))))) .leaf))))) (.seq .leaf (.seq (.seq .leaf (.block (.loop [(68, (.int .i64))] (.seq .leaf (.seq (.cond .leaf .leaf) (.seq (.block (.seq .leaf .leaf)) .leaf)))))) (.seq .leaf (.block (.loop [(79, (.int .i64))] (.seq .leaf (.seq (.cond .leaf .leaf) (.seq (.block (.seq .leaf (.any (.loc 0 (.loc 1 (.loc 2 (.loc 3 (.loc 5 (.loc 6 (.loc 9 (.st 4 3328 (.st 7 3328 (.loc 8 (.loc 10 (.last 11 .done))))))))))))))) .leaf))))))))))))
theorem digest_state_take.eq (s0 : Option Addr) (b1 : Sl) (R : Value → Heap → Prop) (h : Heap) : digest_state_take.body s0 b1 R h = evFn Try.prog Try.f40 digest_state_take.ann [(.pointer s0), (.slice b1.a b1.n b1.c)] R h := by kernel_rfl
theorem digest_state_take.calls {s0 : Option Addr} {b1 : Sl} {R : Value → Heap → Prop} {h : Heap} (H : digest_state_take.body s0 b1 R h) : HC Try.prog F.digest_state_take #[(.pointer s0), (.slice b1.a b1.n b1.c)] R h :=
  evFn_sound mixed Try.func40 (by kernel_rfl) (digest_state_take.eq s0 b1 R h ▸ H)

/-! (*zugzwang/digest.Hasher).all -/
def digest_Hasher_all.body (h0 : Option Addr) (rows1 : Sl) (R : Value → Heap → Prop) (h : Heap) : Prop :=
  loopW (fun X_2 (s_1 : Int) (h : Heap) =>
  if (decide (s_1 < ((rows1.n : Int)))) = true then
  idxK rows1 s_1 (sizeOfT Try.prog T.sl_uint8) (fun (a_3 : Addr) =>
  loadK .slice h ((some a_3)) (fun (v_4 : Sl) =>
  derefK h0 (fun (a_5 : Addr) =>
  fldK ((some a_5)) 9 (fun (a_6 : Addr) =>
  loadK (.int .i64) h ((some a_6)) (fun (v_7 : Int) =>
  derefK h0 (fun (a_8 : Addr) =>
  fldK ((some a_8)) 9 (fun (a_9 : Addr) =>
  storeK h ((some a_9)) (.int .i64 (IntKind.i64.wrap (v_7 + ((v_4.n : Int))))) (fun (h : Heap) =>
  derefK h0 (fun (a_10 : Addr) =>
  fldK ((some a_10)) 8 (fun (a_11 : Addr) =>
  loadK .slice h ((some a_11)) (fun (v_12 : Sl) =>
  opK Try.prog .slice (Builtin.append_ #[T.sl_uint8, T.sl_uint8] T.sl_uint8 #[(.slice v_12.a v_12.n v_12.c), (.slice v_4.a v_4.n v_4.c)]) (fun (v_13 : Sl) (h : Heap) =>
  derefK h0 (fun (a_14 : Addr) =>
  fldK ((some a_14)) 8 (fun (a_15 : Addr) =>
  storeK h ((some a_15)) (.slice v_13.a v_13.n v_13.c) (fun (h : Heap) =>
  loopW (fun X_17 (s_16 : Unit) (h : Heap) =>
  derefK h0 (fun (a_18 : Addr) =>
  fldK ((some a_18)) 8 (fun (a_19 : Addr) =>
  loadK .slice h ((some a_19)) (fun (v_20 : Sl) =>
  if (decide (((v_20.n : Int)) ≥ 64)) = true then
  derefK h0 (fun (a_21 : Addr) =>
  fldK ((some a_21)) 0 (fun (a_22 : Addr) =>
  derefK h0 (fun (a_23 : Addr) =>
  fldK ((some a_23)) 8 (fun (a_24 : Addr) =>
  loadK .slice h ((some a_24)) (fun (v_25 : Sl) =>
  sliceK v_25 none (some 64) none (sizeOfT Try.prog T.uint8) (fun (v_26 : Sl) =>
  callK Try.prog .unit F.digest_state_take #[(.pointer ((some a_22))), (.slice v_26.a v_26.n v_26.c)] (fun (v_27 : Unit) (h : Heap) =>
  derefK h0 (fun (a_28 : Addr) =>
  fldK ((some a_28)) 8 (fun (a_29 : Addr) =>
  loadK .slice h ((some a_29)) (fun (v_30 : Sl) =>
  sliceK v_30 (some 64) none none (sizeOfT Try.prog T.uint8) (fun (v_31 : Sl) =>
  derefK h0 (fun (a_32 : Addr) =>
  fldK ((some a_32)) 8 (fun (a_33 : Addr) =>
  storeK h ((some a_33)) (.slice v_31.a v_31.n v_31.c) (fun (h : Heap) =>
  X_17 () h)))))))) h))))))
  else
  X_2 (IntKind.i64.wrap (s_1 + 1)) h)))) () h)))) h)))))))))))
  else
  derefK h0 (fun (a_34 : Addr) =>
  fldK ((some a_34)) 8 (fun (a_35 : Addr) =>
  loadK .slice h ((some a_35)) (fun (v_36 : Sl) =>
  callK Try.prog .slice F.slices_Clone_byte_byte #[(.slice v_36.a v_36.n v_36.c)] (fun (v_37 : Sl) (h : Heap) =>
  derefK h0 (fun (a_38 : Addr) =>
  fldK ((some a_38)) 8 (fun (a_39 : Addr) =>
  storeK h ((some a_39)) (.slice v_37.a v_37.n v_37.c) (fun (h : Heap) =>
  R (.tuple #[]) h)))) h)))) 0 h
def digest_Hasher_all.ann : Ann := (.seq (.seq .leaf (.block (.loop [(8, (.int .i64))] (.seq .leaf (.seq (.cond .leaf .leaf) (.seq (.block (.seq .leaf (.seq .leaf (.seq .leaf (.block (.loop [] (.seq (.seq .leaf (.cond .leaf .leaf)) (.block (.seq (.any (.loc 0 (.loc 1 (.loc 2 (.loc 3 (.loc 4 (.loc 5 (.st 6 384 (.loc 7 (.last 8 .done)))))))))) .leaf))))))))) .leaf)))))) .leaf)
theorem digest_Hasher_all.eq (h0 : Option Addr) (rows1 : Sl) (R : Value → Heap → Prop) (h : Heap) : digest_Hasher_all.body h0 rows1 R h = evFn Try.prog Try.f26 digest_Hasher_all.ann [(.pointer h0), (.slice rows1.a rows1.n rows1.c)] R h := by kernel_rfl
theorem digest_Hasher_all.calls {h0 : Option Addr} {rows1 : Sl} {R : Value → Heap → Prop} {h : Heap} (H : digest_Hasher_all.body h0 rows1 R h) : HC Try.prog F.digest_Hasher_all #[(.pointer h0), (.slice rows1.a rows1.n rows1.c)] R h :=
  evFn_sound mixed Try.func26 (by kernel_rfl) (digest_Hasher_all.eq h0 rows1 R h ▸ H)

/-! (*zugzwang/bits.row).put -/
def bits_row_put.body (r0 : Option Addr) (w1 : Int) (R : Value → Heap → Prop) (h : Heap) : Prop :=
  derefK r0 (fun (a_1 : Addr) =>
  fldK ((some a_1)) 0 (fun (a_2 : Addr) =>
  loadK .slice h ((some a_2)) (fun (v_3 : Sl) =>
  shiftK 24
  (shiftK 16
  (shiftK 8
  (newSlK h 4 #[(.int .u8 (IntKind.u8.wrap (Int.fdiv w1 (2 ^ min (Int.toNat 24) (IntKind.bits .u32))))), (.int .u8 (IntKind.u8.wrap (Int.fdiv w1 (2 ^ min (Int.toNat 16) (IntKind.bits .u32))))), (.int .u8 (IntKind.u8.wrap (Int.fdiv w1 (2 ^ min (Int.toNat 8) (IntKind.bits .u32))))), (.int .u8 (IntKind.u8.wrap w1))] T.uint8 (fun (v_4 : Sl) (h : Heap) =>
  opK Try.prog .slice (Builtin.append_ #[T.sl_uint8, T.sl_uint8] T.sl_uint8 #[(.slice v_3.a v_3.n v_3.c), (.slice v_4.a v_4.n v_4.c)]) (fun (v_5 : Sl) (h : Heap) =>
  derefK r0 (fun (a_6 : Addr) =>
  fldK ((some a_6)) 0 (fun (a_7 : Addr) =>
  storeK h ((some a_7)) (.slice v_5.a v_5.n v_5.c) (fun (h : Heap) =>
  R (.tuple #[]) h)))) h)))))))
def bits_row_put.ann : Ann := .leaf
theorem bits_row_put.eq (r0 : Option Addr) (w1 : Int) (R : Value → Heap → Prop) (h : Heap) : bits_row_put.body r0 w1 R h = evFn Try.prog Try.f55 bits_row_put.ann [(.pointer r0), (.int .u32 w1)] R h := by kernel_rfl
theorem bits_row_put.calls {r0 : Option Addr} {w1 : Int} {R : Value → Heap → Prop} {h : Heap} (H : bits_row_put.body r0 w1 R h) : HC Try.prog F.bits_row_put #[(.pointer r0), (.int .u32 w1)] R h :=
  evFn_sound mixed Try.func55 (by kernel_rfl) (bits_row_put.eq r0 w1 R h ▸ H)

/-! zugzwang/bits.Bytes -/
def bits_Bytes.body (words0 : Sl) (R : Value → Heap → Prop) (h : Heap) : Prop :=
  newK h (zerosOf Try.prog T.bits_reader) T.bits_reader (fun (r_1 : Option Addr) (h : Heap) =>
  loopW (fun X_3 (s_2 : Int) (h : Heap) =>
  if (decide (s_2 < ((words0.n : Int)))) = true then
  idxK words0 s_2 (sizeOfT Try.prog T.uint32) (fun (a_4 : Addr) =>
  loadK (.int .u32) h ((some a_4)) (fun (v_5 : Int) =>
  fldK r_1 0 (fun (a_6 : Addr) =>
  callK Try.prog .unit F.bits_row_put #[(.pointer ((some a_6))), (.int .u32 v_5)] (fun (v_7 : Unit) (h : Heap) =>
  X_3 (IntKind.i64.wrap (s_2 + 1)) h) h)))
  else
  fldK r_1 0 (fun (a_8 : Addr) =>
  fldK ((some a_8)) 0 (fun (a_9 : Addr) =>
  loadK .slice h ((some a_9)) (fun (v_10 : Sl) =>
  R (.slice v_10.a v_10.n v_10.c) h)))) 0 h)
def bits_Bytes.ann : Ann := (.seq .leaf (.seq .leaf (.seq (.seq .leaf (.block (.loop [(8, (.int .i64))] (.seq .leaf (.seq (.cond .leaf .leaf) (.seq (.block (.seq .leaf .leaf)) .leaf)))))) (.seq .leaf .leaf))))
theorem bits_Bytes.eq (words0 : Sl) (R : Value → Heap → Prop) (h : Heap) : bits_Bytes.body words0 R h = evFn Try.prog Try.f43 bits_Bytes.ann [(.slice words0.a words0.n words0.c)] R h := by kernel_rfl
theorem bits_Bytes.calls {words0 : Sl} {R : Value → Heap → Prop} {h : Heap} (H : bits_Bytes.body words0 R h) : HC Try.prog F.bits_Bytes #[(.slice words0.a words0.n words0.c)] R h :=
  evFn_sound mixed Try.func43 (by kernel_rfl) (bits_Bytes.eq words0 R h ▸ H)

/-! zugzwang/digest.fill -/
def digest_fill.body (n0 : Int) (R : Value → Heap → Prop) (h : Heap) : Prop :=
  divK 64
  (divK 64
  (opK Try.prog .slice (Instr.makeSlice T.sl_uint8 (.int .i64 (IntKind.i64.wrap (1 + (Int.tmod (IntKind.i64.wrap (119 - (Int.tmod n0 64))) 64)))) (.int .i64 128)) (fun (v_1 : Sl) (h : Heap) =>
  idxK v_1 0 (sizeOfT Try.prog T.uint8) (fun (a_2 : Addr) =>
  storeK h ((some a_2)) (.int .u8 128) (fun (h : Heap) =>
  shiftK 32
  (newSlK h 2 #[(.int .u32 (IntKind.u32.wrap (Int.fdiv (IntKind.u64.wrap (IntKind.i64.wrap (8 * n0))) (2 ^ min (Int.toNat 32) (IntKind.bits .u64))))), (.int .u32 (IntKind.u32.wrap (IntKind.u64.wrap (IntKind.i64.wrap (8 * n0)))))] T.uint32 (fun (v_3 : Sl) (h : Heap) =>
  callK Try.prog .slice F.bits_Bytes #[(.slice v_3.a v_3.n v_3.c)] (fun (v_4 : Sl) (h : Heap) =>
  opK Try.prog .slice (Builtin.append_ #[T.sl_uint8, T.sl_uint8] T.sl_uint8 #[(.slice v_1.a v_1.n v_1.c), (.slice v_4.a v_4.n v_4.c)]) (fun (v_5 : Sl) (h : Heap) =>
  R (.slice v_5.a v_5.n v_5.c) h) h) h))))) h))
def digest_fill.ann : Ann := (.seq .leaf (.seq .leaf (.seq .leaf (.seq .leaf (.seq .leaf .leaf)))))
theorem digest_fill.eq (n0 : Int) (R : Value → Heap → Prop) (h : Heap) : digest_fill.body n0 R h = evFn Try.prog Try.f42 digest_fill.ann [(.int .i64 n0)] R h := by kernel_rfl
theorem digest_fill.calls {n0 : Int} {R : Value → Heap → Prop} {h : Heap} (H : digest_fill.body n0 R h) : HC Try.prog F.digest_fill #[(.int .i64 n0)] R h :=
  evFn_sound mixed Try.func42 (by kernel_rfl) (digest_fill.eq n0 R h ▸ H)

/-! (*zugzwang/digest.Hasher).ended -/
def digest_Hasher_ended.body (h0 : Option Addr) (R : Value → Heap → Prop) (h : Heap) : Prop :=
  newK h (zerosOf Try.prog T.api_Tag) T.api_Tag (fun (t_1 : Option Addr) (h : Heap) =>
  derefK h0 (fun (a_2 : Addr) =>
  fldK ((some a_2)) 9 (fun (a_3 : Addr) =>
  loadK (.int .i64) h ((some a_3)) (fun (v_4 : Int) =>
  callK Try.prog .slice F.digest_fill #[(.int .i64 v_4)] (fun (v_5 : Sl) (h : Heap) =>
  newSlK h 1 #[(.slice v_5.a v_5.n v_5.c)] T.sl_uint8 (fun (v_6 : Sl) (h : Heap) =>
  callK Try.prog .unit F.digest_Hasher_all #[(.pointer h0), (.slice v_6.a v_6.n v_6.c)] (fun (v_7 : Unit) (h : Heap) =>
  sliceArrK t_1 32 none none none (sizeOfT Try.prog T.uint8) (fun (v_8 : Sl) =>
  derefK h0 (fun (a_9 : Addr) =>
  fldK ((some a_9)) 0 (fun (a_10 : Addr) =>
  sliceArrK ((some a_10)) 8 none none none (sizeOfT Try.prog T.uint32) (fun (v_11 : Sl) =>
  callK Try.prog .slice F.bits_Bytes #[(.slice v_11.a v_11.n v_11.c)] (fun (v_12 : Sl) (h : Heap) =>
  opK Try.prog (.int .i64) (Builtin.copy_ #[T.sl_uint8, T.sl_uint8] T.int #[(.slice v_8.a v_8.n v_8.c), (.slice v_12.a v_12.n v_12.c)]) (fun (v_13 : Int) (h : Heap) =>
  loadAggK (sizeOfT Try.prog T.api_Tag) h t_1 (fun (v_14 : Array Value) =>
  storeAggK (sizeOfT Try.prog T.api_Tag) h t_1 v_14 (fun (h : Heap) =>
  quietK Try.prog .agg (Instr.loadAt T.api_Tag (.pointer t_1)) (fun (r_15 : Array Value) =>
  R (.agg r_15) h) h))) h) h))))) h)) h))))
def digest_Hasher_ended.ann : Ann := (.seq .leaf (.seq .leaf (.seq (.any (.loc 0 (.loc 1 (.loc 2 (.loc 3 (.loc 4 (.last 5 (.last 6 .done)))))))) (.seq .leaf .leaf))))
theorem digest_Hasher_ended.eq (h0 : Option Addr) (R : Value → Heap → Prop) (h : Heap) : digest_Hasher_ended.body h0 R h = evFn Try.prog Try.f27 digest_Hasher_ended.ann [(.pointer h0)] R h := by kernel_rfl
theorem digest_Hasher_ended.calls {h0 : Option Addr} {R : Value → Heap → Prop} {h : Heap} (H : digest_Hasher_ended.body h0 R h) : HC Try.prog F.digest_Hasher_ended #[(.pointer h0)] R h :=
  evFn_sound mixed Try.func27 (by kernel_rfl) (digest_Hasher_ended.eq h0 R h ▸ H)

/-! zugzwang/digest.Of -/
def digest_Of.body (rows0 : Sl) (R : Value → Heap → Prop) (h : Heap) : Prop :=
  newK h (zerosOf Try.prog T.api_Tag) T.api_Tag (fun (v_1 : Option Addr) (h : Heap) =>
  callK Try.prog .ptr F.digest_New #[] (fun (v_2 : Option Addr) (h : Heap) =>
  callK Try.prog .unit F.digest_Hasher_all #[(.pointer v_2), (.slice rows0.a rows0.n rows0.c)] (fun (v_3 : Unit) (h : Heap) =>
  callK Try.prog .agg F.digest_Hasher_ended #[(.pointer v_2)] (fun (v_4 : Array Value) (h : Heap) =>
  storeAggK (sizeOfT Try.prog T.api_Tag) h v_1 v_4 (fun (h : Heap) =>
  quietK Try.prog .agg (Instr.loadAt T.api_Tag (.pointer v_1)) (fun (r_5 : Array Value) =>
  R (.agg r_5) h) h)) h) h) h)
def digest_Of.ann : Ann := (.seq .leaf (.seq .leaf (.seq .leaf (.seq .leaf .leaf))))
theorem digest_Of.eq (rows0 : Sl) (R : Value → Heap → Prop) (h : Heap) : digest_Of.body rows0 R h = evFn Try.prog Try.f18 digest_Of.ann [(.slice rows0.a rows0.n rows0.c)] R h := by kernel_rfl
theorem digest_Of.calls {rows0 : Sl} {R : Value → Heap → Prop} {h : Heap} (H : digest_Of.body rows0 R h) : HC Try.prog F.digest_Of #[(.slice rows0.a rows0.n rows0.c)] R h :=
  evFn_sound mixed Try.func18 (by kernel_rfl) (digest_Of.eq rows0 R h ▸ H)

/-! zugzwang/mac.keyed -/
def mac_keyed.body (key0 : Sl) (R : Value → Heap → Prop) (h : Heap) : Prop :=
  newK h (zerosOf Try.prog T.mac_block) T.mac_block (fun (b_1 : Option Addr) (h : Heap) =>
  joinW (fun (s_2 : Sl) (h : Heap) =>
  sliceArrK b_1 64 none none none (sizeOfT Try.prog T.uint8) (fun (v_3 : Sl) =>
  opK Try.prog (.int .i64) (Builtin.copy_ #[T.sl_uint8, T.sl_uint8] T.int #[(.slice v_3.a v_3.n v_3.c), (.slice s_2.a s_2.n s_2.c)]) (fun (v_4 : Int) (h : Heap) =>
  loadAggK (sizeOfT Try.prog T.mac_block) h b_1 (fun (v_5 : Array Value) =>
  storeAggK (sizeOfT Try.prog T.mac_block) h b_1 v_5 (fun (h : Heap) =>
  quietK Try.prog .agg (Instr.loadAt T.mac_block (.pointer b_1)) (fun (r_6 : Array Value) =>
  R (.agg r_6) h) h))) h))
  (fun J_7 =>
  if (decide (((key0.n : Int)) > 64)) = true then
  newSlK h 1 #[(.slice key0.a key0.n key0.c)] T.sl_uint8 (fun (v_8 : Sl) (h : Heap) =>
  callK Try.prog .agg F.digest_Of #[(.slice v_8.a v_8.n v_8.c)] (fun (v_9 : Array Value) (h : Heap) =>
  newK h (zerosOf Try.prog T.api_Tag) T.api_Tag (fun (t_10 : Option Addr) (h : Heap) =>
  storeAggK (sizeOfT Try.prog T.api_Tag) h t_10 v_9 (fun (h : Heap) =>
  sliceArrK t_10 32 none none none (sizeOfT Try.prog T.uint8) (fun (v_11 : Sl) =>
  J_7 v_11 h)))) h)
  else
  J_7 key0 h))
def mac_keyed.ann : Ann := (.seq .leaf (.join [(0, .slice)] (.seq .leaf (.cond (.seq .leaf .leaf) .leaf)) (.seq .leaf (.seq .leaf .leaf))))
theorem mac_keyed.eq (key0 : Sl) (R : Value → Heap → Prop) (h : Heap) : mac_keyed.body key0 R h = evFn Try.prog Try.f23 mac_keyed.ann [(.slice key0.a key0.n key0.c)] R h := by kernel_rfl
theorem mac_keyed.calls {key0 : Sl} {R : Value → Heap → Prop} {h : Heap} (H : mac_keyed.body key0 R h) : HC Try.prog F.mac_keyed #[(.slice key0.a key0.n key0.c)] R h :=
  evFn_sound mixed Try.func23 (by kernel_rfl) (mac_keyed.eq key0 R h ▸ H)

/-! (zugzwang/mac.block).turned -/
def mac_block_turned.body (b0 : Array Value) (by1 : Int) (R : Value → Heap → Prop) (h : Heap) : Prop :=
  newK h b0 T.mac_block (fun (b_1 : Option Addr) (h : Heap) =>
  loopW (fun X_3 (s_2 : Int) (h : Heap) =>
  if (decide (s_2 < 64)) = true then
  idxArrK b_1 64 s_2 (sizeOfT Try.prog T.uint8) (fun (a_4 : Addr) =>
  loadK (.int .u8) h ((some a_4)) (fun (v_5 : Int) =>
  idxArrK b_1 64 s_2 (sizeOfT Try.prog T.uint8) (fun (a_6 : Addr) =>
  storeK h ((some a_6)) (.int .u8 (IntKind.u8.wrap (BitVec.ofInt (IntKind.bits .u8) v_5 ^^^ BitVec.ofInt (IntKind.bits .u8) by1).toNat)) (fun (h : Heap) =>
  X_3 (IntKind.i64.wrap (s_2 + 1)) h))))
  else
  sliceArrK b_1 64 none none none (sizeOfT Try.prog T.uint8) (fun (v_7 : Sl) =>
  R (.slice v_7.a v_7.n v_7.c) h)) 0 h)
def mac_block_turned.ann : Ann := (.seq .leaf (.seq (.seq .leaf (.block (.loop [(6, (.int .i64))] (.seq .leaf (.seq (.cond .leaf .leaf) (.seq (.block (.seq .leaf .leaf)) .leaf)))))) (.seq .leaf .leaf)))
theorem mac_block_turned.eq (b0 : Array Value) (by1 : Int) (R : Value → Heap → Prop) (h : Heap) : mac_block_turned.body b0 by1 R h = evFn Try.prog Try.f38 mac_block_turned.ann [(.agg b0), (.int .u8 by1)] R h := by kernel_rfl
theorem mac_block_turned.calls {b0 : Array Value} {by1 : Int} {R : Value → Heap → Prop} {h : Heap} (H : mac_block_turned.body b0 by1 R h) : HC Try.prog F.mac_block_turned #[(.agg b0), (.int .u8 by1)] R h :=
  evFn_sound mixed Try.func38 (by kernel_rfl) (mac_block_turned.eq b0 by1 R h ▸ H)

/-! (zugzwang/mac.sealer).tag -/
def mac_sealer_tag.body (s0 : Array Value) (rows1 : Sl) (R : Value → Heap → Prop) (h : Heap) : Prop :=
  newK h s0 T.mac_sealer (fun (s_1 : Option Addr) (h : Heap) =>
  newK h (zerosOf Try.prog T.api_Tag) T.api_Tag (fun (v_2 : Option Addr) (h : Heap) =>
  fldK s_1 0 (fun (a_3 : Addr) =>
  loadAggK (sizeOfT Try.prog T.mac_block) h ((some a_3)) (fun (v_4 : Array Value) =>
  callK Try.prog .slice F.mac_block_turned #[(.agg v_4), (.int .u8 54)] (fun (v_5 : Sl) (h : Heap) =>
  newSlK h 1 #[(.slice v_5.a v_5.n v_5.c)] T.sl_uint8 (fun (v_6 : Sl) (h : Heap) =>
  opK Try.prog .slice (Builtin.append_ #[T.sl_sl_uint8, T.sl_sl_uint8] T.sl_sl_uint8 #[(.slice v_6.a v_6.n v_6.c), (.slice rows1.a rows1.n rows1.c)]) (fun (v_7 : Sl) (h : Heap) =>
  callK Try.prog .agg F.digest_Of #[(.slice v_7.a v_7.n v_7.c)] (fun (v_8 : Array Value) (h : Heap) =>
  newK h (zerosOf Try.prog T.api_Tag) T.api_Tag (fun (inner_9 : Option Addr) (h : Heap) =>
  storeAggK (sizeOfT Try.prog T.api_Tag) h inner_9 v_8 (fun (h : Heap) =>
  fldK s_1 0 (fun (a_10 : Addr) =>
  sliceArrK inner_9 32 none none none (sizeOfT Try.prog T.uint8) (fun (v_11 : Sl) =>
  loadAggK (sizeOfT Try.prog T.mac_block) h ((some a_10)) (fun (v_12 : Array Value) =>
  callK Try.prog .slice F.mac_block_turned #[(.agg v_12), (.int .u8 92)] (fun (v_13 : Sl) (h : Heap) =>
  newSlK h 2 #[(.slice v_13.a v_13.n v_13.c), (.slice v_11.a v_11.n v_11.c)] T.sl_uint8 (fun (v_14 : Sl) (h : Heap) =>
  callK Try.prog .agg F.digest_Of #[(.slice v_14.a v_14.n v_14.c)] (fun (v_15 : Array Value) (h : Heap) =>
  storeAggK (sizeOfT Try.prog T.api_Tag) h v_2 v_15 (fun (h : Heap) =>
  quietK Try.prog .agg (Instr.loadAt T.api_Tag (.pointer v_2)) (fun (r_16 : Array Value) =>
  R (.agg r_16) h) h)) h)) h)))))) h) h)) h))))
def mac_sealer_tag.ann : Ann := (.seq .leaf (.seq .leaf (.seq (.any (.loc 0 (.loc 3 (.st 1 116 (.last 2 (.last 4 (.last 5 (.last 6 .done)))))))) .leaf)))
theorem mac_sealer_tag.eq (s0 : Array Value) (rows1 : Sl) (R : Value → Heap → Prop) (h : Heap) : mac_sealer_tag.body s0 rows1 R h = evFn Try.prog Try.f24 mac_sealer_tag.ann [(.agg s0), (.slice rows1.a rows1.n rows1.c)] R h := by kernel_rfl
theorem mac_sealer_tag.calls {s0 : Array Value} {rows1 : Sl} {R : Value → Heap → Prop} {h : Heap} (H : mac_sealer_tag.body s0 rows1 R h) : HC Try.prog F.mac_sealer_tag #[(.agg s0), (.slice rows1.a rows1.n rows1.c)] R h :=
  evFn_sound mixed Try.func24 (by kernel_rfl) (mac_sealer_tag.eq s0 rows1 R h ▸ H)

/-! zugzwang/mac.Of -/
def mac_Of.body (key0 : Sl) (rows1 : Sl) (R : Value → Heap → Prop) (h : Heap) : Prop :=
  newK h (zerosOf Try.prog T.api_Tag) T.api_Tag (fun (v_1 : Option Addr) (h : Heap) =>
  callK Try.prog .agg F.mac_keyed #[(.slice key0.a key0.n key0.c)] (fun (v_2 : Array Value) (h : Heap) =>
  buildK Try.prog (Instr.build T.mac_sealer #[(0, (.agg v_2))]) (fun (v_3 : Array Value) =>
  callK Try.prog .agg F.mac_sealer_tag #[(.agg v_3), (.slice rows1.a rows1.n rows1.c)] (fun (v_4 : Array Value) (h : Heap) =>
  storeAggK (sizeOfT Try.prog T.api_Tag) h v_1 v_4 (fun (h : Heap) =>
  quietK Try.prog .agg (Instr.loadAt T.api_Tag (.pointer v_1)) (fun (r_5 : Array Value) =>
  R (.agg r_5) h) h)) h)) h)
def mac_Of.ann : Ann := (.seq .leaf (.seq .leaf .leaf))
theorem mac_Of.eq (key0 : Sl) (rows1 : Sl) (R : Value → Heap → Prop) (h : Heap) : mac_Of.body key0 rows1 R h = evFn Try.prog Try.f12 mac_Of.ann [(.slice key0.a key0.n key0.c), (.slice rows1.a rows1.n rows1.c)] R h := by kernel_rfl
theorem mac_Of.calls {key0 : Sl} {rows1 : Sl} {R : Value → Heap → Prop} {h : Heap} (H : mac_Of.body key0 rows1 R h) : HC Try.prog F.mac_Of #[(.slice key0.a key0.n key0.c), (.slice rows1.a rows1.n rows1.c)] R h :=
  evFn_sound mixed Try.func12 (by kernel_rfl) (mac_Of.eq key0 rows1 R h ▸ H)

/-! zugzwang/zugzwanglaw03.awake -/
def law03_awake.body  (R : Value → Heap → Prop) (h : Heap) : Prop :=
  newSlK h 4 #[(.int .u8 74), (.int .u8 101), (.int .u8 102), (.int .u8 101)] T.uint8 (fun (v_1 : Sl) (h : Heap) =>
  opK Try.prog .slice (convert T.sl_uint8 T.sl_uint8 (.slice v_1.a v_1.n v_1.c)) (fun (v_2 : Sl) (h : Heap) =>
  newSlK h 16 #[(.int .u8 119), (.int .u8 104), (.int .u8 97), (.int .u8 116), (.int .u8 32), (.int .u8 100), (.int .u8 111), (.int .u8 32), (.int .u8 121), (.int .u8 97), (.int .u8 32), (.int .u8 119), (.int .u8 97), (.int .u8 110), (.int .u8 116), (.int .u8 32)] T.uint8 (fun (v_3 : Sl) (h : Heap) =>
  opK Try.prog .slice (convert T.sl_uint8 T.sl_uint8 (.slice v_3.a v_3.n v_3.c)) (fun (v_4 : Sl) (h : Heap) =>
  newSlK h 12 #[(.int .u8 102), (.int .u8 111), (.int .u8 114), (.int .u8 32), (.int .u8 110), (.int .u8 111), (.int .u8 116), (.int .u8 104), (.int .u8 105), (.int .u8 110), (.int .u8 103), (.int .u8 63)] T.uint8 (fun (v_5 : Sl) (h : Heap) =>
  opK Try.prog .slice (convert T.sl_uint8 T.sl_uint8 (.slice v_5.a v_5.n v_5.c)) (fun (v_6 : Sl) (h : Heap) =>
  newSlK h 2 #[(.slice v_4.a v_4.n v_4.c), (.slice v_6.a v_6.n v_6.c)] T.sl_uint8 (fun (v_7 : Sl) (h : Heap) =>
  callK Try.prog .agg F.mac_Of #[(.slice v_2.a v_2.n v_2.c), (.slice v_7.a v_7.n v_7.c)] (fun (v_8 : Array Value) (h : Heap) =>
  newK h (zerosOf Try.prog T.api_Tag) T.api_Tag (fun (t_9 : Option Addr) (h : Heap) =>
  storeAggK (sizeOfT Try.prog T.api_Tag) h t_9 v_8 (fun (h : Heap) =>
  idxArrK t_9 32 0 (sizeOfT Try.prog T.uint8) (fun (a_10 : Addr) =>
  loadK (.int .u8) h ((some a_10)) (fun (v_11 : Int) =>
  if (v_11 == 91) = true then
  idxArrK t_9 32 1 (sizeOfT Try.prog T.uint8) (fun (a_12 : Addr) =>
  loadK (.int .u8) h ((some a_12)) (fun (v_13 : Int) =>
  if (v_13 == 220) = true then
  idxArrK t_9 32 2 (sizeOfT Try.prog T.uint8) (fun (a_14 : Addr) =>
  loadK (.int .u8) h ((some a_14)) (fun (v_15 : Int) =>
  if (v_15 == 193) = true then
  idxArrK t_9 32 3 (sizeOfT Try.prog T.uint8) (fun (a_16 : Addr) =>
  loadK (.int .u8) h ((some a_16)) (fun (v_17 : Int) =>
  if (v_17 == 70) = true then
  idxArrK t_9 32 30 (sizeOfT Try.prog T.uint8) (fun (a_18 : Addr) =>
  loadK (.int .u8) h ((some a_18)) (fun (v_19 : Int) =>
  if (v_19 == 56) = true then
  idxArrK t_9 32 31 (sizeOfT Try.prog T.uint8) (fun (a_20 : Addr) =>
  loadK (.int .u8) h ((some a_20)) (fun (v_21 : Int) =>
  R (.bool (v_21 == 67)) h))
  else
  R (.bool false) h))
  else
  R (.bool false) h))
  else
  R (.bool false) h))
  else
  R (.bool false) h))
  else
  R (.bool false) h))))) h)) h)) h)) h)
def law03_awake.ann : Ann := (.seq .leaf (.seq .leaf (.seq .leaf .leaf)))
theorem law03_awake.eq  (R : Value → Heap → Prop) (h : Heap) : law03_awake.body  R h = evFn Try.prog Try.f8 law03_awake.ann [] R h := by kernel_rfl
theorem law03_awake.calls  {R : Value → Heap → Prop} {h : Heap} (H : law03_awake.body  R h) : HC Try.prog F.law03_awake #[] R h :=
  evFn_sound mixed Try.func8 (by kernel_rfl) (law03_awake.eq  R h ▸ H)

/-! zugzwang/zugzwangkit.mark -/
def kit_mark.body (k0 : Int) (i1 : Int) (R : Value → Heap → Prop) (h : Heap) : Prop :=
  R (.int .i64 (IntKind.i64.wrap ((IntKind.i64.wrap (1000003 * (IntKind.i64.wrap (k0 + 7)))) + i1))) h
def kit_mark.ann : Ann := (.seq .leaf (.seq .leaf .leaf))
theorem kit_mark.eq (k0 : Int) (i1 : Int) (R : Value → Heap → Prop) (h : Heap) : kit_mark.body k0 i1 R h = evFn Try.prog Try.f28 kit_mark.ann [(.int .i64 k0), (.int .i64 i1)] R h := by kernel_rfl
theorem kit_mark.calls {k0 : Int} {i1 : Int} {R : Value → Heap → Prop} {h : Heap} (H : kit_mark.body k0 i1 R h) : HC Try.prog F.kit_mark #[(.int .i64 k0), (.int .i64 i1)] R h :=
  evFn_sound mixed Try.func28 (by kernel_rfl) (kit_mark.eq k0 i1 R h ▸ H)

/-! zugzwang/zugzwangkit.markByte -/
def kit_markByte.body (k0 : Int) (i1 : Int) (R : Value → Heap → Prop) (h : Heap) : Prop :=
  callK Try.prog (.int .i64) F.kit_mark #[(.int .i64 k0), (.int .i64 i1)] (fun (v_1 : Int) (h : Heap) =>
  shiftK 56
  (R (.int .u8 (IntKind.u8.wrap (Int.fdiv (IntKind.u64.wrap ((IntKind.u64.wrap v_1) * 11400714819323198485)) (2 ^ min (Int.toNat 56) (IntKind.bits .u64))))) h)) h
def kit_markByte.ann : Ann := (.seq .leaf (.seq .leaf .leaf))
theorem kit_markByte.eq (k0 : Int) (i1 : Int) (R : Value → Heap → Prop) (h : Heap) : kit_markByte.body k0 i1 R h = evFn Try.prog Try.f19 kit_markByte.ann [(.int .i64 k0), (.int .i64 i1)] R h := by kernel_rfl
theorem kit_markByte.calls {k0 : Int} {i1 : Int} {R : Value → Heap → Prop} {h : Heap} (H : kit_markByte.body k0 i1 R h) : HC Try.prog F.kit_markByte #[(.int .i64 k0), (.int .i64 i1)] R h :=
  evFn_sound mixed Try.func19 (by kernel_rfl) (kit_markByte.eq k0 i1 R h ▸ H)

/-! zugzwang/zugzwangkit.LentBytes -/
def kit_LentBytes.body (l0 : Sl) (R : Value → Heap → Prop) (h : Heap) : Prop :=
  opK Try.prog .slice (Instr.makeSlice T.sl_uint8 (.int .i64 0) (.int .i64 (IntKind.i64.wrap (((l0.n : Int)) + 12)))) (fun (v_1 : Sl) (h : Heap) =>
  opK Try.prog .slice (Builtin.append_ #[T.sl_uint8, T.sl_uint8] T.sl_uint8 #[(.slice v_1.a v_1.n v_1.c), (.slice l0.a l0.n l0.c)]) (fun (v_2 : Sl) (h : Heap) =>
  loopW (fun X_4 (s_3 : Sl × Int) (h : Heap) =>
  if (decide (s_3.2 < 12)) = true then
  callK Try.prog (.int .u8) F.kit_markByte #[(.int .i64 1), (.int .i64 s_3.2)] (fun (v_5 : Int) (h : Heap) =>
  newSlK h 1 #[(.int .u8 v_5)] T.uint8 (fun (v_6 : Sl) (h : Heap) =>
  opK Try.prog .slice (Builtin.append_ #[T.sl_uint8, T.sl_uint8] T.sl_uint8 #[(.slice s_3.1.a s_3.1.n s_3.1.c), (.slice v_6.a v_6.n v_6.c)]) (fun (v_7 : Sl) (h : Heap) =>
  X_4 (v_7, IntKind.i64.wrap (s_3.2 + 1)) h) h)) h
  else
  sliceK s_3.1 none (some ((l0.n : Int))) none (sizeOfT Try.prog T.uint8) (fun (v_8 : Sl) =>
  R (.slice v_8.a v_8.n v_8.c) h)) (v_2, 0) h) h) h
def kit_LentBytes.ann : Ann := (.seq .leaf (.seq .leaf (.seq .leaf (.seq (.seq .leaf (.block (.loop [(3, .slice), (4, (.int .i64))] (.seq (.seq .leaf (.cond .leaf .leaf)) (.seq (.block .leaf) .leaf))))) (.seq .leaf .leaf)))))
theorem kit_LentBytes.eq (l0 : Sl) (R : Value → Heap → Prop) (h : Heap) : kit_LentBytes.body l0 R h = evFn Try.prog Try.f9 kit_LentBytes.ann [(.slice l0.a l0.n l0.c)] R h := by kernel_rfl
theorem kit_LentBytes.calls {l0 : Sl} {R : Value → Heap → Prop} {h : Heap} (H : kit_LentBytes.body l0 R h) : HC Try.prog F.kit_LentBytes #[(.slice l0.a l0.n l0.c)] R h :=
  evFn_sound mixed Try.func9 (by kernel_rfl) (kit_LentBytes.eq l0 R h ▸ H)

/-! zugzwang/zugzwangref02.filled -/
def ref02_filled.body (b0 : Sl) (R : Value → Heap → Prop) (h : Heap) : Prop :=
  newSlK h 0 #[] T.uint8 (fun (v_1 : Sl) (h : Heap) =>
  opK Try.prog .slice (Builtin.append_ #[T.sl_uint8, T.sl_uint8] T.sl_uint8 #[(.slice v_1.a v_1.n v_1.c), (.slice b0.a b0.n b0.c)]) (fun (v_2 : Sl) (h : Heap) =>
  newSlK h 1 #[(.int .u8 128)] T.uint8 (fun (v_3 : Sl) (h : Heap) =>
  opK Try.prog .slice (Builtin.append_ #[T.sl_uint8, T.sl_uint8] T.sl_uint8 #[(.slice v_2.a v_2.n v_2.c), (.slice v_3.a v_3.n v_3.c)]) (fun (v_4 : Sl) (h : Heap) =>
  loopW (fun X_6 (s_5 : Sl) (h : Heap) =>
  divK 64
  (if ((Int.tmod ((s_5.n : Int)) 64) != 56) = true then
  newSlK h 1 #[(.int .u8 0)] T.uint8 (fun (v_7 : Sl) (h : Heap) =>
  opK Try.prog .slice (Builtin.append_ #[T.sl_uint8, T.sl_uint8] T.sl_uint8 #[(.slice s_5.a s_5.n s_5.c), (.slice v_7.a v_7.n v_7.c)]) (fun (v_8 : Sl) (h : Heap) =>
  X_6 v_8 h) h)
  else
  loopW (fun X_10 (s_9 : Sl × Int) (h : Heap) =>
  if (decide (s_9.2 ≥ 0)) = true then
  shiftK (IntKind.i64.wrap (8 * s_9.2))
  (newSlK h 1 #[(.int .u8 (IntKind.u8.wrap (Int.fdiv (IntKind.i64.wrap (8 * ((b0.n : Int)))) (2 ^ min (Int.toNat (IntKind.i64.wrap (8 * s_9.2))) (IntKind.bits .i64)))))] T.uint8 (fun (v_11 : Sl) (h : Heap) =>
  opK Try.prog .slice (Builtin.append_ #[T.sl_uint8, T.sl_uint8] T.sl_uint8 #[(.slice s_9.1.a s_9.1.n s_9.1.c), (.slice v_11.a v_11.n v_11.c)]) (fun (v_12 : Sl) (h : Heap) =>
  X_10 (v_12, IntKind.i64.wrap (s_9.2 - 1)) h) h))
  else
  R (.slice s_9.1.a s_9.1.n s_9.1.c) h) (s_5, 7) h)) v_4 h) h)) h)
def ref02_filled.ann : Ann := (.seq .leaf (.seq .leaf (.seq (.block (.loop [(3, .slice)] (.seq (.seq .leaf (.cond .leaf .leaf)) (.block .leaf)))) (.seq .leaf (.seq (.seq .leaf (.block (.loop [(3, .slice), (5, (.int .i64))] (.seq (.seq .leaf (.cond .leaf .leaf)) (.seq (.block .leaf) .leaf))))) (.seq .leaf .leaf))))))
theorem ref02_filled.eq (b0 : Sl) (R : Value → Heap → Prop) (h : Heap) : ref02_filled.body b0 R h = evFn Try.prog Try.f29 ref02_filled.ann [(.slice b0.a b0.n b0.c)] R h := by kernel_rfl
theorem ref02_filled.calls {b0 : Sl} {R : Value → Heap → Prop} {h : Heap} (H : ref02_filled.body b0 R h) : HC Try.prog F.ref02_filled #[(.slice b0.a b0.n b0.c)] R h :=
  evFn_sound mixed Try.func29 (by kernel_rfl) (ref02_filled.eq b0 R h ▸ H)

/-! zugzwang/zugzwangref02.constants -/
def ref02_constants.body  (R : Value → Heap → Prop) (h : Heap) : Prop :=
  newSlK h 64 #[(.int .u32 1116352408), (.int .u32 1899447441), (.int .u32 3049323471), (.int .u32 3921009573), (.int .u32 961987163), (.int .u32 1508970993), (.int .u32 2453635748), (.int .u32 2870763221), (.int .u32 3624381080), (.int .u32 310598401), (.int .u32 607225278), (.int .u32 1426881987), (.int .u32 1925078388), (.int .u32 2162078206), (.int .u32 2614888103), (.int .u32 3248222580), (.int .u32 3835390401), (.int .u32 4022224774), (.int .u32 264347078), (.int .u32 604807628), (.int .u32 770255983), (.int .u32 1249150122), (.int .u32 1555081692), (.int .u32 1996064986), (.int .u32 2554220882), (.int .u32 2821834349), (.int .u32 2952996808), (.int .u32 3210313671), (.int .u32 3336571891), (.int .u32 3584528711), (.int .u32 113926993), (.int .u32 338241895), (.int .u32 666307205), (.int .u32 773529912), (.int .u32 1294757372), (.int .u32 1396182291), (.int .u32 1695183700), (.int .u32 1986661051), (.int .u32 2177026350), (.int .u32 2456956037), (.int .u32 2730485921), (.int .u32 2820302411), (.int .u32 3259730800), (.int .u32 3345764771), (.int .u32 3516065817), (.int .u32 3600352804), (.int .u32 4094571909), (.int .u32 275423344), (.int .u32 430227734), (.int .u32 506948616), (.int .u32 659060556), (.int .u32 883997877), (.int .u32 958139571), (.int .u32 1322822218), (.int .u32 1537002063), (.int .u32 1747873779), (.int .u32 1955562222), (.int .u32 2024104815), (.int .u32 2227730452), (.int .u32 2361852424), (.int .u32 2428436474), (.int .u32 2756734187), (.int .u32 3204031479), (.int .u32 3329325298)] T.uint32 (fun (v_1 : Sl) (h : Heap) =>
  R (.slice v_1.a v_1.n v_1.c) h)
def ref02_constants.ann : Ann := (.seq .leaf (.seq .leaf .leaf))
theorem ref02_constants.eq  (R : Value → Heap → Prop) (h : Heap) : ref02_constants.body  R h = evFn Try.prog Try.f30 ref02_constants.ann [] R h := by kernel_rfl
theorem ref02_constants.calls  {R : Value → Heap → Prop} {h : Heap} (H : ref02_constants.body  R h) : HC Try.prog F.ref02_constants #[] R h :=
  evFn_sound mixed Try.func30 (by kernel_rfl) (ref02_constants.eq  R h ▸ H)

/-! zugzwang/zugzwangref02.begin -/
def ref02_begin.body  (R : Value → Heap → Prop) (h : Heap) : Prop :=
  newSlK h 8 #[(.int .u32 1779033703), (.int .u32 3144134277), (.int .u32 1013904242), (.int .u32 2773480762), (.int .u32 1359893119), (.int .u32 2600822924), (.int .u32 528734635), (.int .u32 1541459225)] T.uint32 (fun (v_1 : Sl) (h : Heap) =>
  R (.slice v_1.a v_1.n v_1.c) h)
def ref02_begin.ann : Ann := (.seq .leaf (.seq .leaf .leaf))
theorem ref02_begin.eq  (R : Value → Heap → Prop) (h : Heap) : ref02_begin.body  R h = evFn Try.prog Try.f31 ref02_begin.ann [] R h := by kernel_rfl
theorem ref02_begin.calls  {R : Value → Heap → Prop} {h : Heap} (H : ref02_begin.body  R h) : HC Try.prog F.ref02_begin #[] R h :=
  evFn_sound mixed Try.func31 (by kernel_rfl) (ref02_begin.eq  R h ▸ H)

/-! zugzwang/zugzwangref01.Sum -/
def ref01_Sum.body (words0 : Sl) (R : Value → Heap → Prop) (h : Heap) : Prop :=
  loopW (fun X_2 (s_1 : Int × Int) (h : Heap) =>
  if (decide (s_1.2 < ((words0.n : Int)))) = true then
  idxK words0 s_1.2 (sizeOfT Try.prog T.uint32) (fun (a_3 : Addr) =>
  loadK (.int .u32) h ((some a_3)) (fun (v_4 : Int) =>
  divK 4294967296
  (X_2 (Int.tmod (IntKind.u64.wrap (s_1.1 + (IntKind.u64.wrap v_4))) 4294967296, IntKind.i64.wrap (s_1.2 + 1)) h)))
  else
  R (.int .u32 (IntKind.u32.wrap s_1.1)) h) (0, 0) h
def ref01_Sum.ann : Ann := (.seq .leaf (.seq .leaf (.seq (.seq .leaf (.block (.loop [(3, (.int .u64)), (4, (.int .i64))] (.seq (.seq .leaf (.cond .leaf .leaf)) (.seq (.block .leaf) .leaf))))) (.seq .leaf .leaf))))
theorem ref01_Sum.eq (words0 : Sl) (R : Value → Heap → Prop) (h : Heap) : ref01_Sum.body words0 R h = evFn Try.prog Try.f33 ref01_Sum.ann [(.slice words0.a words0.n words0.c)] R h := by kernel_rfl
theorem ref01_Sum.calls {words0 : Sl} {R : Value → Heap → Prop} {h : Heap} (H : ref01_Sum.body words0 R h) : HC Try.prog F.ref01_Sum #[(.slice words0.a words0.n words0.c)] R h :=
  evFn_sound mixed Try.func33 (by kernel_rfl) (ref01_Sum.eq words0 R h ▸ H)

/-! zugzwang/zugzwangref01.Words -/
def ref01_Words.body (b0 : Sl) (R : Value → Heap → Prop) (h : Heap) : Prop :=
  divK 4
  (if ((Int.tmod ((b0.n : Int)) 4) != 0) = true then
  R (.tuple #[(.slice none 0 0), (.int .i64 4)]) h
  else
  loopW (fun X_2 (s_1 : Sl × Int) (h : Heap) =>
  if (decide (s_1.2 < ((b0.n : Int)))) = true then
  idxK b0 s_1.2 (sizeOfT Try.prog T.uint8) (fun (a_3 : Addr) =>
  idxK b0 (IntKind.i64.wrap (s_1.2 + 1)) (sizeOfT Try.prog T.uint8) (fun (a_4 : Addr) =>
  idxK b0 (IntKind.i64.wrap (s_1.2 + 2)) (sizeOfT Try.prog T.uint8) (fun (a_5 : Addr) =>
  idxK b0 (IntKind.i64.wrap (s_1.2 + 3)) (sizeOfT Try.prog T.uint8) (fun (a_6 : Addr) =>
  loadK (.int .u8) h ((some a_3)) (fun (v_7 : Int) =>
  loadK (.int .u8) h ((some a_4)) (fun (v_8 : Int) =>
  loadK (.int .u8) h ((some a_5)) (fun (v_9 : Int) =>
  loadK (.int .u8) h ((some a_6)) (fun (v_10 : Int) =>
  newSlK h 1 #[(.int .u32 (IntKind.u32.wrap ((IntKind.u32.wrap ((IntKind.u32.wrap ((IntKind.u32.wrap ((IntKind.u32.wrap v_7) * 16777216)) + (IntKind.u32.wrap ((IntKind.u32.wrap v_8) * 65536)))) + (IntKind.u32.wrap ((IntKind.u32.wrap v_9) * 256)))) + (IntKind.u32.wrap v_10))))] T.uint32 (fun (v_11 : Sl) (h : Heap) =>
  opK Try.prog .slice (Builtin.append_ #[T.sl_uint32, T.sl_uint32] T.sl_uint32 #[(.slice s_1.1.a s_1.1.n s_1.1.c), (.slice v_11.a v_11.n v_11.c)]) (fun (v_12 : Sl) (h : Heap) =>
  X_2 (v_12, IntKind.i64.wrap (s_1.2 + 4)) h) h)))))))))
  else
  R (.tuple #[(.slice s_1.1.a s_1.1.n s_1.1.c), (.int .i64 0)]) h) (⟨none, 0, 0⟩, 0) h)
def ref01_Words.ann : Ann := (.seq .leaf (.seq (.seq .leaf (.cond (.seq .leaf .leaf) .leaf)) (.seq .leaf (.seq (.seq .leaf (.block (.loop [(4, .slice), (5, (.int .i64))] (.seq (.seq .leaf (.cond .leaf .leaf)) (.seq (.block (.any (.loc 0 (.loc 1 (.loc 2 (.loc 3 (.loc 7 (.loc 8 (.loc 9 (.loc 10 (.loc 15 (.loc 16 (.loc 17 (.loc 18 (.loc 23 (.loc 24 (.loc 25 (.loc 26 (.st 4 8057274464 (.loc 5 (.loc 6 (.st 11 8057286656 (.loc 12 (.loc 13 (.loc 14 (.st 19 8060403712 (.loc 20 (.loc 21 (.loc 22 (.st 27 8321499136 (.loc 28 (.loc 29 (.last 30 (.last 31 (.loc 32 .done))))))))))))))))))))))))))))))))))) .leaf))))) (.seq .leaf .leaf)))))
theorem ref01_Words.eq (b0 : Sl) (R : Value → Heap → Prop) (h : Heap) : ref01_Words.body b0 R h = evFn Try.prog Try.f44 ref01_Words.ann [(.slice b0.a b0.n b0.c)] R h := by kernel_rfl
theorem ref01_Words.calls {b0 : Sl} {R : Value → Heap → Prop} {h : Heap} (H : ref01_Words.body b0 R h) : HC Try.prog F.ref01_Words #[(.slice b0.a b0.n b0.c)] R h :=
  evFn_sound mixed Try.func44 (by kernel_rfl) (ref01_Words.eq b0 R h ▸ H)

/-! zugzwang/zugzwangref01.bit -/
def ref01_bit.body (x0 : Int) (k1 : Int) (R : Value → Heap → Prop) (h : Heap) : Prop :=
  shiftK k1
  (divK 2
  (R (.bool ((Int.tmod (Int.fdiv x0 (2 ^ min (Int.toNat k1) (IntKind.bits .u32))) 2) == 1)) h))
def ref01_bit.ann : Ann := (.seq .leaf (.seq .leaf .leaf))
theorem ref01_bit.eq (x0 : Int) (k1 : Int) (R : Value → Heap → Prop) (h : Heap) : ref01_bit.body x0 k1 R h = evFn Try.prog Try.f46 ref01_bit.ann [(.int .u32 x0), (.int .i64 k1)] R h := by kernel_rfl
theorem ref01_bit.calls {x0 : Int} {k1 : Int} {R : Value → Heap → Prop} {h : Heap} (H : ref01_bit.body x0 k1 R h) : HC Try.prog F.ref01_bit #[(.int .u32 x0), (.int .i64 k1)] R h :=
  evFn_sound mixed Try.func46 (by kernel_rfl) (ref01_bit.eq x0 k1 R h ▸ H)

/-! zugzwang/zugzwangref01.low -/
def ref01_low.body (n0 : Int) (R : Value → Heap → Prop) (h : Heap) : Prop :=
  divK 32
  (if (decide ((Int.tmod n0 32) < 0)) = true then
  R (.int .i64 (IntKind.i64.wrap ((Int.tmod n0 32) + 32))) h
  else
  R (.int .i64 (Int.tmod n0 32)) h)
def ref01_low.ann : Ann := (.seq .leaf (.seq .leaf (.seq (.seq .leaf (.cond .leaf .leaf)) (.seq .leaf .leaf))))
theorem ref01_low.eq (n0 : Int) (R : Value → Heap → Prop) (h : Heap) : ref01_low.body n0 R h = evFn Try.prog Try.f47 ref01_low.ann [(.int .i64 n0)] R h := by kernel_rfl
theorem ref01_low.calls {n0 : Int} {R : Value → Heap → Prop} {h : Heap} (H : ref01_low.body n0 R h) : HC Try.prog F.ref01_low #[(.int .i64 n0)] R h :=
  evFn_sound mixed Try.func47 (by kernel_rfl) (ref01_low.eq n0 R h ▸ H)

/-! zugzwang/zugzwangref01.place -/
def ref01_place.body (k0 : Int) (one1 : Bool) (R : Value → Heap → Prop) (h : Heap) : Prop :=
  if one1 = true then
  shiftK k0
  (R (.int .u32 (IntKind.u32.wrap (1 * 2 ^ min (Int.toNat k0) (IntKind.bits .u32)))) h)
  else
  R (.int .u32 0) h
def ref01_place.ann : Ann := (.seq .leaf (.seq (.seq .leaf (.cond (.seq .leaf .leaf) .leaf)) (.seq .leaf .leaf)))
theorem ref01_place.eq (k0 : Int) (one1 : Bool) (R : Value → Heap → Prop) (h : Heap) : ref01_place.body k0 one1 R h = evFn Try.prog Try.f48 ref01_place.ann [(.int .i64 k0), (.bool one1)] R h := by kernel_rfl
theorem ref01_place.calls {k0 : Int} {one1 : Bool} {R : Value → Heap → Prop} {h : Heap} (H : ref01_place.body k0 one1 R h) : HC Try.prog F.ref01_place #[(.int .i64 k0), (.bool one1)] R h :=
  evFn_sound mixed Try.func48 (by kernel_rfl) (ref01_place.eq k0 one1 R h ▸ H)

/-! zugzwang/zugzwangref01.Mix -/
def ref01_Mix.body (x0 : Int) (turns1 : Sl) (R : Value → Heap → Prop) (h : Heap) : Prop :=
  loopW (fun X_2 (s_1 : Int × Int) (h : Heap) =>
  if (decide (s_1.2 < 32)) = true then
  loopW (fun X_4 (s_3 : Bool × Int) (h : Heap) =>
  if (decide (s_3.2 < ((turns1.n : Int)))) = true then
  idxK turns1 s_3.2 (sizeOfT Try.prog T.int) (fun (a_5 : Addr) =>
  loadK (.int .i64) h ((some a_5)) (fun (v_6 : Int) =>
  callK Try.prog (.int .i64) F.ref01_low #[(.int .i64 v_6)] (fun (v_7 : Int) (h : Heap) =>
  divK 32
  (callK Try.prog .bool F.ref01_bit #[(.int .u32 x0), (.int .i64 (Int.tmod (IntKind.i64.wrap (s_1.2 + v_7)) 32))] (fun (v_8 : Bool) (h : Heap) =>
  if v_8 = true then
  X_4 (!s_3.1, IntKind.i64.wrap (s_3.2 + 1)) h
  else
  X_4 (s_3.1, IntKind.i64.wrap (s_3.2 + 1)) h) h)) h))
  else
  callK Try.prog (.int .u32) F.ref01_place #[(.int .i64 s_1.2), (.bool s_3.1)] (fun (v_9 : Int) (h : Heap) =>
  X_2 (IntKind.u32.wrap (s_1.1 + v_9), IntKind.i64.wrap (s_1.2 + 1)) h) h) (false, 0) h
  else
  R (.int .u32 s_1.1) h) (0, 0) h
def ref01_Mix.ann : Ann := (.seq .leaf (.seq .leaf (.seq (.seq .leaf (.block (.loop [(5, (.int .u32)), (6, (.int .i64))] (.seq (.seq .leaf (.cond .leaf .leaf)) (.seq (.block (.seq .leaf (.seq (.seq .leaf (.block (.loop [(7, .bool), (8, (.int .i64))] (.seq (.seq .leaf (.cond .leaf .leaf)) (.seq (.block (.seq .leaf (.cond .leaf .leaf))) .leaf))))) .leaf))) .leaf))))) (.seq .leaf .leaf))))
theorem ref01_Mix.eq (x0 : Int) (turns1 : Sl) (R : Value → Heap → Prop) (h : Heap) : ref01_Mix.body x0 turns1 R h = evFn Try.prog Try.f34 ref01_Mix.ann [(.int .u32 x0), (.slice turns1.a turns1.n turns1.c)] R h := by kernel_rfl
theorem ref01_Mix.calls {x0 : Int} {turns1 : Sl} {R : Value → Heap → Prop} {h : Heap} (H : ref01_Mix.body x0 turns1 R h) : HC Try.prog F.ref01_Mix #[(.int .u32 x0), (.slice turns1.a turns1.n turns1.c)] R h :=
  evFn_sound mixed Try.func34 (by kernel_rfl) (ref01_Mix.eq x0 turns1 R h ▸ H)

/-! zugzwang/zugzwangref01.Shift -/
def ref01_Shift.body (x0 : Int) (n1 : Int) (R : Value → Heap → Prop) (h : Heap) : Prop :=
  if (decide (n1 < 0)) = true then
  R (.int .u32 x0) h
  else
  loopW (fun X_2 (s_1 : Int × Int) (h : Heap) =>
  if (decide (s_1.2 < 32)) = true then
  if (decide (n1 < (IntKind.i64.wrap (32 - s_1.2)))) = true then
  callK Try.prog .bool F.ref01_bit #[(.int .u32 x0), (.int .i64 (IntKind.i64.wrap (s_1.2 + n1)))] (fun (v_3 : Bool) (h : Heap) =>
  callK Try.prog (.int .u32) F.ref01_place #[(.int .i64 s_1.2), (.bool v_3)] (fun (v_4 : Int) (h : Heap) =>
  X_2 (IntKind.u32.wrap (s_1.1 + v_4), IntKind.i64.wrap (s_1.2 + 1)) h) h) h
  else
  callK Try.prog (.int .u32) F.ref01_place #[(.int .i64 s_1.2), (.bool false)] (fun (v_5 : Int) (h : Heap) =>
  X_2 (IntKind.u32.wrap (s_1.1 + v_5), IntKind.i64.wrap (s_1.2 + 1)) h) h
  else
  R (.int .u32 s_1.1) h) (0, 0) h
def ref01_Shift.ann : Ann := (.seq .leaf (.seq (.seq .leaf (.cond (.seq .leaf .leaf) .leaf)) (.seq .leaf (.seq (.seq .leaf (.block (.loop [(5, (.int .u32)), (6, (.int .i64))] (.seq (.seq .leaf (.cond .leaf .leaf)) (.seq (.block .leaf) .leaf))))) (.seq .leaf .leaf)))))
theorem ref01_Shift.eq (x0 : Int) (n1 : Int) (R : Value → Heap → Prop) (h : Heap) : ref01_Shift.body x0 n1 R h = evFn Try.prog Try.f56 ref01_Shift.ann [(.int .u32 x0), (.int .i64 n1)] R h := by kernel_rfl
theorem ref01_Shift.calls {x0 : Int} {n1 : Int} {R : Value → Heap → Prop} {h : Heap} (H : ref01_Shift.body x0 n1 R h) : HC Try.prog F.ref01_Shift #[(.int .u32 x0), (.int .i64 n1)] R h :=
  evFn_sound mixed Try.func56 (by kernel_rfl) (ref01_Shift.eq x0 n1 R h ▸ H)

/-! zugzwang/zugzwangref02.small -/
def ref02_small.body (x0 : Int) (i1 : Int) (j2 : Int) (k3 : Int) (R : Value → Heap → Prop) (h : Heap) : Prop :=
  newSlK h 2 #[(.int .i64 i1), (.int .i64 j2)] T.int (fun (v_1 : Sl) (h : Heap) =>
  callK Try.prog (.int .u32) F.ref01_Mix #[(.int .u32 x0), (.slice v_1.a v_1.n v_1.c)] (fun (v_2 : Int) (h : Heap) =>
  callK Try.prog (.int .u32) F.ref01_Shift #[(.int .u32 x0), (.int .i64 k3)] (fun (v_3 : Int) (h : Heap) =>
  R (.int .u32 (IntKind.u32.wrap (BitVec.ofInt (IntKind.bits .u32) v_2 ^^^ BitVec.ofInt (IntKind.bits .u32) v_3).toNat)) h) h) h)
def ref02_small.ann : Ann := (.seq .leaf (.seq .leaf .leaf))
theorem ref02_small.eq (x0 : Int) (i1 : Int) (j2 : Int) (k3 : Int) (R : Value → Heap → Prop) (h : Heap) : ref02_small.body x0 i1 j2 k3 R h = evFn Try.prog Try.f45 ref02_small.ann [(.int .u32 x0), (.int .i64 i1), (.int .i64 j2), (.int .i64 k3)] R h := by kernel_rfl
theorem ref02_small.calls {x0 : Int} {i1 : Int} {j2 : Int} {k3 : Int} {R : Value → Heap → Prop} {h : Heap} (H : ref02_small.body x0 i1 j2 k3 R h) : HC Try.prog F.ref02_small #[(.int .u32 x0), (.int .i64 i1), (.int .i64 j2), (.int .i64 k3)] R h :=
  evFn_sound mixed Try.func45 (by kernel_rfl) (ref02_small.eq x0 i1 j2 k3 R h ▸ H)

/-! zugzwang/zugzwangref02.schedule -/
def ref02_schedule.body (block0 : Sl) (R : Value → Heap → Prop) (h : Heap) : Prop :=
  callK Try.prog (Kd.pair .slice (.int .i64)) F.ref01_Words #[(.slice block0.a block0.n block0.c)] (fun (v_1 : Sl × Int) (h : Heap) =>
  loopW (fun X_3 (s_2 : Sl × Int) (h : Heap) =>
  if (decide (s_2.2 < 64)) = true then
  idxK s_2.1 (IntKind.i64.wrap (s_2.2 - 16)) (sizeOfT Try.prog T.uint32) (fun (a_4 : Addr) =>
  idxK s_2.1 (IntKind.i64.wrap (s_2.2 - 15)) (sizeOfT Try.prog T.uint32) (fun (a_5 : Addr) =>
  idxK s_2.1 (IntKind.i64.wrap (s_2.2 - 7)) (sizeOfT Try.prog T.uint32) (fun (a_6 : Addr) =>
  idxK s_2.1 (IntKind.i64.wrap (s_2.2 - 2)) (sizeOfT Try.prog T.uint32) (fun (a_7 : Addr) =>
  loadK (.int .u32) h ((some a_4)) (fun (v_8 : Int) =>
  loadK (.int .u32) h ((some a_5)) (fun (v_9 : Int) =>
  loadK (.int .u32) h ((some a_6)) (fun (v_10 : Int) =>
  loadK (.int .u32) h ((some a_7)) (fun (v_11 : Int) =>
  callK Try.prog (.int .u32) F.ref02_small #[(.int .u32 v_9), (.int .i64 7), (.int .i64 18), (.int .i64 3)] (fun (v_12 : Int) (h : Heap) =>
  stillK (.int .u32) h ((some a_7)) v_11 ∧
  stillK (.int .u32) h ((some a_6)) v_10 ∧
  stillK (.int .u32) h ((some a_4)) v_8 ∧
  callK Try.prog (.int .u32) F.ref02_small #[(.int .u32 v_11), (.int .i64 17), (.int .i64 19), (.int .i64 10)] (fun (v_13 : Int) (h : Heap) =>
  stillK (.int .u32) h ((some a_6)) v_10 ∧
  stillK (.int .u32) h ((some a_4)) v_8 ∧
  newSlK h 4 #[(.int .u32 v_8), (.int .u32 v_12), (.int .u32 v_10), (.int .u32 v_13)] T.uint32 (fun (v_14 : Sl) (h : Heap) =>
  callK Try.prog (.int .u32) F.ref01_Sum #[(.slice v_14.a v_14.n v_14.c)] (fun (v_15 : Int) (h : Heap) =>
  newSlK h 1 #[(.int .u32 v_15)] T.uint32 (fun (v_16 : Sl) (h : Heap) =>
  opK Try.prog .slice (Builtin.append_ #[T.sl_uint32, T.sl_uint32] T.sl_uint32 #[(.slice s_2.1.a s_2.1.n s_2.1.c), (.slice v_16.a v_16.n v_16.c)]) (fun (v_17 : Sl) (h : Heap) =>
  X_3 (v_17, IntKind.i64.wrap (s_2.2 + 1)) h) h)) h)) h) h))))))))
  else
  R (.slice s_2.1.a s_2.1.n s_2.1.c) h) (v_1.1, 16) h) h
def ref02_schedule.ann : Ann := (.seq .leaf (.seq .leaf (.seq (.seq .leaf (.block (.loop [(3, .slice), (5, (.int .i64))] (.seq (.seq .leaf (.cond .leaf .leaf)) (.seq (.block (.any (.loc 0 (.loc 1 (.loc 2 (.loc 3 (.loc 4 (.loc 6 (.loc 7 (.loc 8 (.loc 9 (.loc 12 (.loc 13 (.loc 14 (.loc 15 (.loc 17 (.loc 18 (.loc 19 (.loc 20 (.st 5 260046848 (.st 10 264243200 (.st 16 260046848 (.st 21 264241152 (.last 11 (.last 22 (.last 23 (.last 24 (.last 25 (.last 26 (.loc 27 .done)))))))))))))))))))))))))))))) .leaf))))) (.seq .leaf .leaf))))
theorem ref02_schedule.eq (block0 : Sl) (R : Value → Heap → Prop) (h : Heap) : ref02_schedule.body block0 R h = evFn Try.prog Try.f32 ref02_schedule.ann [(.slice block0.a block0.n block0.c)] R h := by kernel_rfl
theorem ref02_schedule.calls {block0 : Sl} {R : Value → Heap → Prop} {h : Heap} (H : ref02_schedule.body block0 R h) : HC Try.prog F.ref02_schedule #[(.slice block0.a block0.n block0.c)] R h :=
  evFn_sound mixed Try.func32 (by kernel_rfl) (ref02_schedule.eq block0 R h ▸ H)

/-! zugzwang/zugzwangref01.Choose -/
def ref01_Choose.body (x0 : Int) (a1 : Int) (b2 : Int) (R : Value → Heap → Prop) (h : Heap) : Prop :=
  loopW (fun X_2 (s_1 : Int × Int) (h : Heap) =>
  if (decide (s_1.2 < 32)) = true then
  callK Try.prog .bool F.ref01_bit #[(.int .u32 x0), (.int .i64 s_1.2)] (fun (v_3 : Bool) (h : Heap) =>
  if v_3 = true then
  callK Try.prog .bool F.ref01_bit #[(.int .u32 a1), (.int .i64 s_1.2)] (fun (v_4 : Bool) (h : Heap) =>
  if v_4 = true then
  callK Try.prog (.int .u32) F.ref01_place #[(.int .i64 s_1.2), (.bool true)] (fun (v_5 : Int) (h : Heap) =>
  X_2 (IntKind.u32.wrap (s_1.1 + v_5), IntKind.i64.wrap (s_1.2 + 1)) h) h
  else
  callK Try.prog .bool F.ref01_bit #[(.int .u32 x0), (.int .i64 s_1.2)] (fun (v_6 : Bool) (h : Heap) =>
  if (!v_6) = true then
  callK Try.prog .bool F.ref01_bit #[(.int .u32 b2), (.int .i64 s_1.2)] (fun (v_7 : Bool) (h : Heap) =>
  callK Try.prog (.int .u32) F.ref01_place #[(.int .i64 s_1.2), (.bool v_7)] (fun (v_8 : Int) (h : Heap) =>
  X_2 (IntKind.u32.wrap (s_1.1 + v_8), IntKind.i64.wrap (s_1.2 + 1)) h) h) h
  else
  callK Try.prog (.int .u32) F.ref01_place #[(.int .i64 s_1.2), (.bool false)] (fun (v_9 : Int) (h : Heap) =>
  X_2 (IntKind.u32.wrap (s_1.1 + v_9), IntKind.i64.wrap (s_1.2 + 1)) h) h) h) h
  else
  callK Try.prog .bool F.ref01_bit #[(.int .u32 x0), (.int .i64 s_1.2)] (fun (v_10 : Bool) (h : Heap) =>
  if (!v_10) = true then
  callK Try.prog .bool F.ref01_bit #[(.int .u32 b2), (.int .i64 s_1.2)] (fun (v_11 : Bool) (h : Heap) =>
  callK Try.prog (.int .u32) F.ref01_place #[(.int .i64 s_1.2), (.bool v_11)] (fun (v_12 : Int) (h : Heap) =>
  X_2 (IntKind.u32.wrap (s_1.1 + v_12), IntKind.i64.wrap (s_1.2 + 1)) h) h) h
  else
  callK Try.prog (.int .u32) F.ref01_place #[(.int .i64 s_1.2), (.bool false)] (fun (v_13 : Int) (h : Heap) =>
  X_2 (IntKind.u32.wrap (s_1.1 + v_13), IntKind.i64.wrap (s_1.2 + 1)) h) h) h) h
  else
  R (.int .u32 s_1.1) h) (0, 0) h
def ref01_Choose.ann : Ann := (.seq .leaf (.seq .leaf (.seq (.seq .leaf (.block (.loop [(7, (.int .u32)), (8, (.int .i64))] (.seq (.seq .leaf (.cond .leaf .leaf)) (.seq (.block .leaf) .leaf))))) (.seq .leaf .leaf))))
theorem ref01_Choose.eq (x0 : Int) (a1 : Int) (b2 : Int) (R : Value → Heap → Prop) (h : Heap) : ref01_Choose.body x0 a1 b2 R h = evFn Try.prog Try.f35 ref01_Choose.ann [(.int .u32 x0), (.int .u32 a1), (.int .u32 b2)] R h := by kernel_rfl
theorem ref01_Choose.calls {x0 : Int} {a1 : Int} {b2 : Int} {R : Value → Heap → Prop} {h : Heap} (H : ref01_Choose.body x0 a1 b2 R h) : HC Try.prog F.ref01_Choose #[(.int .u32 x0), (.int .u32 a1), (.int .u32 b2)] R h :=
  evFn_sound mixed Try.func35 (by kernel_rfl) (ref01_Choose.eq x0 a1 b2 R h ▸ H)

/-! zugzwang/zugzwangref01.Most -/
def ref01_Most.body (words0 : Sl) (R : Value → Heap → Prop) (h : Heap) : Prop :=
  loopW (fun X_2 (s_1 : Int × Int) (h : Heap) =>
  if (decide (s_1.2 < 32)) = true then
  loopW (fun X_4 (s_3 : Int × Int) (h : Heap) =>
  if (decide (s_3.2 < ((words0.n : Int)))) = true then
  idxK words0 s_3.2 (sizeOfT Try.prog T.uint32) (fun (a_5 : Addr) =>
  loadK (.int .u32) h ((some a_5)) (fun (v_6 : Int) =>
  callK Try.prog .bool F.ref01_bit #[(.int .u32 v_6), (.int .i64 s_1.2)] (fun (v_7 : Bool) (h : Heap) =>
  if v_7 = true then
  X_4 (IntKind.i64.wrap (s_3.1 + 1), IntKind.i64.wrap (s_3.2 + 1)) h
  else
  X_4 (IntKind.i64.wrap (s_3.1 - 1), IntKind.i64.wrap (s_3.2 + 1)) h) h))
  else
  callK Try.prog (.int .u32) F.ref01_place #[(.int .i64 s_1.2), (.bool (decide (s_3.1 > 0)))] (fun (v_8 : Int) (h : Heap) =>
  X_2 (IntKind.u32.wrap (s_1.1 + v_8), IntKind.i64.wrap (s_1.2 + 1)) h) h) (0, 0) h
  else
  R (.int .u32 s_1.1) h) (0, 0) h
def ref01_Most.ann : Ann := (.seq .leaf (.seq .leaf (.seq (.seq .leaf (.block (.loop [(3, (.int .u32)), (4, (.int .i64))] (.seq (.seq .leaf (.cond .leaf .leaf)) (.seq (.block (.seq .leaf (.seq (.seq .leaf (.block (.loop [(5, (.int .i64)), (6, (.int .i64))] (.seq (.seq .leaf (.cond .leaf .leaf)) (.seq (.block (.seq .leaf (.cond .leaf .leaf))) .leaf))))) .leaf))) .leaf))))) (.seq .leaf .leaf))))
theorem ref01_Most.eq (words0 : Sl) (R : Value → Heap → Prop) (h : Heap) : ref01_Most.body words0 R h = evFn Try.prog Try.f36 ref01_Most.ann [(.slice words0.a words0.n words0.c)] R h := by kernel_rfl
theorem ref01_Most.calls {words0 : Sl} {R : Value → Heap → Prop} {h : Heap} (H : ref01_Most.body words0 R h) : HC Try.prog F.ref01_Most #[(.slice words0.a words0.n words0.c)] R h :=
  evFn_sound mixed Try.func36 (by kernel_rfl) (ref01_Most.eq words0 R h ▸ H)

/-! zugzwang/zugzwangref01.Bytes -/
def ref01_Bytes.body (words0 : Sl) (R : Value → Heap → Prop) (h : Heap) : Prop :=
  loopW (fun X_2 (s_1 : Sl × Int) (h : Heap) =>
  if (decide (s_1.2 < ((words0.n : Int)))) = true then
  loopW (fun X_4 (s_3 : Sl × Int) (h : Heap) =>
  if (decide (s_3.2 ≥ 0)) = true then
  idxK words0 s_1.2 (sizeOfT Try.prog T.uint32) (fun (a_5 : Addr) =>
  loadK (.int .u32) h ((some a_5)) (fun (v_6 : Int) =>
  shiftK (IntKind.i64.wrap (8 * s_3.2))
  (divK 256
  (newSlK h 1 #[(.int .u8 (IntKind.u8.wrap (Int.tmod (Int.fdiv v_6 (2 ^ min (Int.toNat (IntKind.i64.wrap (8 * s_3.2))) (IntKind.bits .u32))) 256)))] T.uint8 (fun (v_7 : Sl) (h : Heap) =>
  opK Try.prog .slice (Builtin.append_ #[T.sl_uint8, T.sl_uint8] T.sl_uint8 #[(.slice s_3.1.a s_3.1.n s_3.1.c), (.slice v_7.a v_7.n v_7.c)]) (fun (v_8 : Sl) (h : Heap) =>
  X_4 (v_8, IntKind.i64.wrap (s_3.2 - 1)) h) h)))))
  else
  X_2 (s_3.1, IntKind.i64.wrap (s_1.2 + 1)) h) (s_1.1, 3) h
  else
  R (.slice s_1.1.a s_1.1.n s_1.1.c) h) (⟨none, 0, 0⟩, 0) h
def ref01_Bytes.ann : Ann := (.seq .leaf (.seq .leaf (.seq (.seq .leaf (.block (.loop [(3, .slice), (4, (.int .i64))] (.seq (.seq .leaf (.cond .leaf .leaf)) (.seq (.block (.seq .leaf (.block (.loop [(3, .slice), (5, (.int .i64))] (.seq (.seq .leaf (.cond .leaf .leaf)) (.seq (.block .leaf) .leaf)))))) .leaf))))) (.seq .leaf .leaf))))
theorem ref01_Bytes.eq (words0 : Sl) (R : Value → Heap → Prop) (h : Heap) : ref01_Bytes.body words0 R h = evFn Try.prog Try.f37 ref01_Bytes.ann [(.slice words0.a words0.n words0.c)] R h := by kernel_rfl
theorem ref01_Bytes.calls {words0 : Sl} {R : Value → Heap → Prop} {h : Heap} (H : ref01_Bytes.body words0 R h) : HC Try.prog F.ref01_Bytes #[(.slice words0.a words0.n words0.c)] R h :=
  evFn_sound mixed Try.func37 (by kernel_rfl) (ref01_Bytes.eq words0 R h ▸ H)

/-! zugzwang/zugzwangref02.Of -/
def ref02_Of.body (b0 : Sl) (R : Value → Heap → Prop) (h : Heap) : Prop :=
  newK h (zerosOf Try.prog T.api_Tag) T.api_Tag (fun (v_1 : Option Addr) (h : Heap) =>
  callK Try.prog .slice F.ref02_filled #[(.slice b0.a b0.n b0.c)] (fun (v_2 : Sl) (h : Heap) =>
  callK Try.prog .slice F.ref02_constants #[] (fun (v_3 : Sl) (h : Heap) =>
  callK Try.prog .slice F.ref02_begin #[] (fun (v_4 : Sl) (h : Heap) =>
  loopW (fun X_6 (s_5 : Int) (h : Heap) =>
  if (decide (s_5 < ((v_2.n : Int)))) = true then
  sliceK v_2 (some s_5) (some (IntKind.i64.wrap (s_5 + 64))) none (sizeOfT Try.prog T.uint8) (fun (v_7 : Sl) =>
  callK Try.prog .slice F.ref02_schedule #[(.slice v_7.a v_7.n v_7.c)] (fun (v_8 : Sl) (h : Heap) =>
  newSlK h 0 #[] T.uint32 (fun (v_9 : Sl) (h : Heap) =>
  opK Try.prog .slice (Builtin.append_ #[T.sl_uint32, T.sl_uint32] T.sl_uint32 #[(.slice v_9.a v_9.n v_9.c), (.slice v_4.a v_4.n v_4.c)]) (fun (v_10 : Sl) (h : Heap) =>
  loopW (fun X_12 (s_11 : Sl × Int) (h : Heap) =>
  if (decide (s_11.2 < 64)) = true then
  idxK s_11.1 7 (sizeOfT Try.prog T.uint32) (fun (a_13 : Addr) =>
  idxK s_11.1 4 (sizeOfT Try.prog T.uint32) (fun (a_14 : Addr) =>
  idxK s_11.1 4 (sizeOfT Try.prog T.uint32) (fun (a_15 : Addr) =>
  idxK s_11.1 5 (sizeOfT Try.prog T.uint32) (fun (a_16 : Addr) =>
  idxK s_11.1 6 (sizeOfT Try.prog T.uint32) (fun (a_17 : Addr) =>
  idxK v_3 s_11.2 (sizeOfT Try.prog T.uint32) (fun (a_18 : Addr) =>
  idxK v_8 s_11.2 (sizeOfT Try.prog T.uint32) (fun (a_19 : Addr) =>
  loadK (.int .u32) h ((some a_13)) (fun (v_20 : Int) =>
  loadK (.int .u32) h ((some a_14)) (fun (v_21 : Int) =>
  loadK (.int .u32) h ((some a_15)) (fun (v_22 : Int) =>
  loadK (.int .u32) h ((some a_16)) (fun (v_23 : Int) =>
  loadK (.int .u32) h ((some a_17)) (fun (v_24 : Int) =>
  loadK (.int .u32) h ((some a_18)) (fun (v_25 : Int) =>
  loadK (.int .u32) h ((some a_19)) (fun (v_26 : Int) =>
  newSlK h 3 #[(.int .i64 6), (.int .i64 11), (.int .i64 25)] T.int (fun (v_27 : Sl) (h : Heap) =>
  callK Try.prog (.int .u32) F.ref01_Mix #[(.int .u32 v_21), (.slice v_27.a v_27.n v_27.c)] (fun (v_28 : Int) (h : Heap) =>
  stillK (.int .u32) h ((some a_19)) v_26 ∧
  stillK (.int .u32) h ((some a_18)) v_25 ∧
  stillK (.int .u32) h ((some a_17)) v_24 ∧
  stillK (.int .u32) h ((some a_16)) v_23 ∧
  stillK (.int .u32) h ((some a_15)) v_22 ∧
  stillK (.int .u32) h ((some a_13)) v_20 ∧
  callK Try.prog (.int .u32) F.ref01_Choose #[(.int .u32 v_22), (.int .u32 v_23), (.int .u32 v_24)] (fun (v_29 : Int) (h : Heap) =>
  stillK (.int .u32) h ((some a_19)) v_26 ∧
  stillK (.int .u32) h ((some a_18)) v_25 ∧
  stillK (.int .u32) h ((some a_13)) v_20 ∧
  newSlK h 5 #[(.int .u32 v_20), (.int .u32 v_28), (.int .u32 v_29), (.int .u32 v_25), (.int .u32 v_26)] T.uint32 (fun (v_30 : Sl) (h : Heap) =>
  callK Try.prog (.int .u32) F.ref01_Sum #[(.slice v_30.a v_30.n v_30.c)] (fun (v_31 : Int) (h : Heap) =>
  idxK s_11.1 0 (sizeOfT Try.prog T.uint32) (fun (a_32 : Addr) =>
  sliceK s_11.1 none (some 3) none (sizeOfT Try.prog T.uint32) (fun (v_33 : Sl) =>
  loadK (.int .u32) h ((some a_32)) (fun (v_34 : Int) =>
  newSlK h 3 #[(.int .i64 2), (.int .i64 13), (.int .i64 22)] T.int (fun (v_35 : Sl) (h : Heap) =>
  callK Try.prog (.int .u32) F.ref01_Mix #[(.int .u32 v_34), (.slice v_35.a v_35.n v_35.c)] (fun (v_36 : Int) (h : Heap) =>
  callK Try.prog (.int .u32) F.ref01_Most #[(.slice v_33.a v_33.n v_33.c)] (fun (v_37 : Int) (h : Heap) =>
  newSlK h 2 #[(.int .u32 v_36), (.int .u32 v_37)] T.uint32 (fun (v_38 : Sl) (h : Heap) =>
  callK Try.prog (.int .u32) F.ref01_Sum #[(.slice v_38.a v_38.n v_38.c)] (fun (v_39 : Int) (h : Heap) =>
  idxK s_11.1 0 (sizeOfT Try.prog T.uint32) (fun (a_40 : Addr) =>
  idxK s_11.1 1 (sizeOfT Try.prog T.uint32) (fun (a_41 : Addr) =>
  idxK s_11.1 2 (sizeOfT Try.prog T.uint32) (fun (a_42 : Addr) =>
  idxK s_11.1 3 (sizeOfT Try.prog T.uint32) (fun (a_43 : Addr) =>
  idxK s_11.1 4 (sizeOfT Try.prog T.uint32) (fun (a_44 : Addr) =>
  idxK s_11.1 5 (sizeOfT Try.prog T.uint32) (fun (a_45 : Addr) =>
  idxK s_11.1 6 (sizeOfT Try.prog T.uint32) (fun (a_46 : Addr) =>
  loadK (.int .u32) h ((some a_40)) (fun (v_47 : Int) =>
  loadK (.int .u32) h ((some a_41)) (fun (v_48 : Int) =>
  loadK (.int .u32) h ((some a_42)) (fun (v_49 : Int) =>
  loadK (.int .u32) h ((some a_43)) (fun (v_50 : Int) =>
  loadK (.int .u32) h ((some a_44)) (fun (v_51 : Int) =>
  loadK (.int .u32) h ((some a_45)) (fun (v_52 : Int) =>
  loadK (.int .u32) h ((some a_46)) (fun (v_53 : Int) =>
  newSlK h 8 #[(.int .u32 (IntKind.u32.wrap (v_31 + v_39))), (.int .u32 v_47), (.int .u32 v_48), (.int .u32 v_49), (.int .u32 (IntKind.u32.wrap (v_50 + v_31))), (.int .u32 v_51), (.int .u32 v_52), (.int .u32 v_53)] T.uint32 (fun (v_54 : Sl) (h : Heap) =>
  X_12 (v_54, IntKind.i64.wrap (s_11.2 + 1)) h)))))))))))))))) h)) h) h))))) h)) h) h)))))))))))))))
  else
  loopW (fun X_56 (s_55 : Int) (h : Heap) =>
  if (decide (s_55 < 8)) = true then
  idxK v_4 s_55 (sizeOfT Try.prog T.uint32) (fun (a_57 : Addr) =>
  idxK s_11.1 s_55 (sizeOfT Try.prog T.uint32) (fun (a_58 : Addr) =>
  loadK (.int .u32) h ((some a_57)) (fun (v_59 : Int) =>
  loadK (.int .u32) h ((some a_58)) (fun (v_60 : Int) =>
  idxK v_4 s_55 (sizeOfT Try.prog T.uint32) (fun (a_61 : Addr) =>
  storeK h ((some a_61)) (.int .u32 (IntKind.u32.wrap (v_59 + v_60))) (fun (h : Heap) =>
  X_56 (IntKind.i64.wrap (s_55 + 1)) h))))))
  else
  X_6 (IntKind.i64.wrap (s_5 + 64)) h) 0 h) (v_10, 0) h) h)) h)
  else
  newK h (zerosOf Try.prog T.api_Tag) T.api_Tag (fun (out_62 : Option Addr) (h : Heap) =>
  callK Try.prog .slice F.ref01_Bytes #[(.slice v_4.a v_4.n v_4.c)] (fun (v_63 : Sl) (h : Heap) =>
  loopW (fun X_65 (s_64 : Int) (h : Heap) =>
  if (decide (s_64 < 32)) = true then
  idxK v_63 s_64 (sizeOfT Try.prog T.uint8) (fun (a_66 : Addr) =>
  loadK (.int .u8) h ((some a_66)) (fun (v_67 : Int) =>
  idxArrK out_62 32 s_64 (sizeOfT Try.prog T.uint8) (fun (a_68 : Addr) =>
  storeK h ((some a_68)) (.int .u8 v_67) (fun (h : Heap) =>
  X_65 (IntKind.i64.wrap (s_64 + 1)) h))))
  else
  loadAggK (sizeOfT Try.prog T.api_Tag) h out_62 (fun (v_69 : Array Value) =>
  storeAggK (sizeOfT Try.prog T.api_Tag) h v_1 v_69 (fun (h : Heap) =>
  quietK Try.prog .agg (Instr.loadAt T.api_Tag (.pointer v_1)) (fun (r_70 : Array Value) =>
  R (.agg r_70) h) h))) 0 h) h)) 0 h) h) h) h)
def ref02_Of.ann : Ann := (.seq .leaf (.seq .leaf (.seq .leaf (.seq .leaf (.seq (.seq .leaf (.block (.loop [(6, (.int .i64))] (.seq (.seq .leaf (.cond .leaf .leaf)) (.seq (.block (.seq .leaf (.seq .leaf (.seq (.seq .leaf (.block (.loop [(8, .slice), (9, (.int .i64))] (.seq (.seq .leaf (.cond .leaf .leaf)) (.seq (.block (.seq (.any (.loc 0 (.loc 1 (.loc 3 (.loc 4 (.loc 8 (.loc 9 (.loc 11 (.loc 12 (.loc 14 (.loc 15 (.loc 18 (.loc 19 (.loc 20 (.loc 22 (.loc 23 (.loc 24 (.st 2 469762048 (.st 5 469893248 (.st 10 469893120 (.st 13 469893120 (.st 16 469893120 (.st 21 469762048 (.st 25 469762048 (.last 6 (.last 7 (.last 17 (.last 26 (.last 27 (.loc 28 .done)))))))))))))))))))))))))))))) (.seq (.any (.loc 0 (.loc 1 (.loc 5 (.loc 6 (.st 2 1936 (.last 3 (.last 4 (.last 7 (.last 8 (.last 9 (.loc 10 .done)))))))))))) (.any (.loc 0 (.loc 1 (.loc 2 (.loc 3 (.loc 4 (.loc 6 (.loc 7 (.loc 9 (.loc 10 (.loc 12 (.loc 13 (.loc 15 (.loc 17 (.loc 18 (.loc 20 (.loc 21 (.loc 23 (.loc 24 (.st 5 201326592 (.st 8 201326592 (.st 11 201326592 (.st 14 201392128 (.loc 16 (.st 19 201326592 (.st 22 201326592 (.st 25 201326592 (.last 26 (.loc 27 .done)))))))))))))))))))))))))))))))) .leaf))))) (.seq .leaf (.block (.loop [(12, (.int .i64))] (.seq (.seq .leaf (.cond .leaf .leaf)) (.seq (.block (.any (.loc 0 (.loc 1 (.loc 2 (.loc 3 (.loc 4 (.loc 6 (.loc 7 (.loc 8 (.st 5 7168 (.st 9 7168 (.loc 10 (.loc 11 (.last 12 .done))))))))))))))) .leaf))))))))) .leaf))))) (.seq .leaf (.seq .leaf (.seq (.seq .leaf (.block (.loop [(14, (.int .i64))] (.seq (.seq .leaf (.cond .leaf .leaf)) (.seq (.block .leaf) .leaf))))) (.seq .leaf .leaf)))))))))
theorem ref02_Of.eq (b0 : Sl) (R : Value → Heap → Prop) (h : Heap) : ref02_Of.body b0 R h = evFn Try.prog Try.f20 ref02_Of.ann [(.slice b0.a b0.n b0.c)] R h := by kernel_rfl
theorem ref02_Of.calls {b0 : Sl} {R : Value → Heap → Prop} {h : Heap} (H : ref02_Of.body b0 R h) : HC Try.prog F.ref02_Of #[(.slice b0.a b0.n b0.c)] R h :=
  evFn_sound mixed Try.func20 (by kernel_rfl) (ref02_Of.eq b0 R h ▸ H)

/-! zugzwang/zugzwangref03.bytes -/
def ref03_bytes.body (t0 : Array Value) (R : Value → Heap → Prop) (h : Heap) : Prop :=
  newK h t0 T.api_Tag (fun (t_1 : Option Addr) (h : Heap) =>
  loopW (fun X_3 (s_2 : Sl × Int) (h : Heap) =>
  if (decide (s_2.2 < 32)) = true then
  idxArrK t_1 32 s_2.2 (sizeOfT Try.prog T.uint8) (fun (a_4 : Addr) =>
  loadK (.int .u8) h ((some a_4)) (fun (v_5 : Int) =>
  newSlK h 1 #[(.int .u8 v_5)] T.uint8 (fun (v_6 : Sl) (h : Heap) =>
  opK Try.prog .slice (Builtin.append_ #[T.sl_uint8, T.sl_uint8] T.sl_uint8 #[(.slice s_2.1.a s_2.1.n s_2.1.c), (.slice v_6.a v_6.n v_6.c)]) (fun (v_7 : Sl) (h : Heap) =>
  X_3 (v_7, IntKind.i64.wrap (s_2.2 + 1)) h) h)))
  else
  R (.slice s_2.1.a s_2.1.n s_2.1.c) h) (⟨none, 0, 0⟩, 0) h)
def ref03_bytes.ann : Ann := (.seq .leaf (.seq .leaf (.seq (.seq .leaf (.block (.loop [(3, .slice), (4, (.int .i64))] (.seq (.seq .leaf (.cond .leaf .leaf)) (.seq (.block .leaf) .leaf))))) (.seq .leaf .leaf))))
theorem ref03_bytes.eq (t0 : Array Value) (R : Value → Heap → Prop) (h : Heap) : ref03_bytes.body t0 R h = evFn Try.prog Try.f22 ref03_bytes.ann [(.agg t0)] R h := by kernel_rfl
theorem ref03_bytes.calls {t0 : Array Value} {R : Value → Heap → Prop} {h : Heap} (H : ref03_bytes.body t0 R h) : HC Try.prog F.ref03_bytes #[(.agg t0)] R h :=
  evFn_sound mixed Try.func22 (by kernel_rfl) (ref03_bytes.eq t0 R h ▸ H)

/-! zugzwang/zugzwangref03.block -/
def ref03_block.body (key0 : Sl) (turn1 : Int) (R : Value → Heap → Prop) (h : Heap) : Prop :=
  joinW (fun (s_1 : Sl) (h : Heap) =>
  opK Try.prog .slice (Instr.makeSlice T.sl_uint8 (.int .i64 64) (.int .i64 64)) (fun (v_2 : Sl) (h : Heap) =>
  loopW (fun X_4 (s_3 : Int) (h : Heap) =>
  if (decide (s_3 < 64)) = true then
  joinW (fun (s_5 : Unit) (h : Heap) =>
  idxK v_2 s_3 (sizeOfT Try.prog T.uint8) (fun (a_6 : Addr) =>
  loadK (.int .u8) h ((some a_6)) (fun (v_7 : Int) =>
  idxK v_2 s_3 (sizeOfT Try.prog T.uint8) (fun (a_8 : Addr) =>
  storeK h ((some a_8)) (.int .u8 (IntKind.u8.wrap (BitVec.ofInt (IntKind.bits .u8) v_7 ^^^ BitVec.ofInt (IntKind.bits .u8) turn1).toNat)) (fun (h : Heap) =>
  X_4 (IntKind.i64.wrap (s_3 + 1)) h)))))
  (fun J_9 =>
  if (decide (s_3 < ((s_1.n : Int)))) = true then
  idxK s_1 s_3 (sizeOfT Try.prog T.uint8) (fun (a_10 : Addr) =>
  loadK (.int .u8) h ((some a_10)) (fun (v_11 : Int) =>
  idxK v_2 s_3 (sizeOfT Try.prog T.uint8) (fun (a_12 : Addr) =>
  storeK h ((some a_12)) (.int .u8 v_11) (fun (h : Heap) =>
  J_9 () h))))
  else
  J_9 () h)
  else
  R (.slice v_2.a v_2.n v_2.c) h) 0 h) h)
  (fun J_13 =>
  if (decide (((key0.n : Int)) > 64)) = true then
  callK Try.prog .agg F.ref02_Of #[(.slice key0.a key0.n key0.c)] (fun (v_14 : Array Value) (h : Heap) =>
  callK Try.prog .slice F.ref03_bytes #[(.agg v_14)] (fun (v_15 : Sl) (h : Heap) =>
  J_13 v_15 h) h) h
  else
  J_13 key0 h)
def ref03_block.ann : Ann := (.seq .leaf (.join [(0, .slice)] (.seq .leaf (.cond .leaf .leaf)) (.seq .leaf (.seq (.seq .leaf (.block (.loop [(6, (.int .i64))] (.seq (.seq .leaf (.cond .leaf .leaf)) (.seq (.block (.join [] (.seq .leaf (.cond .leaf .leaf)) .leaf)) .leaf))))) (.seq .leaf .leaf)))))
theorem ref03_block.eq (key0 : Sl) (turn1 : Int) (R : Value → Heap → Prop) (h : Heap) : ref03_block.body key0 turn1 R h = evFn Try.prog Try.f21 ref03_block.ann [(.slice key0.a key0.n key0.c), (.int .u8 turn1)] R h := by kernel_rfl
theorem ref03_block.calls {key0 : Sl} {turn1 : Int} {R : Value → Heap → Prop} {h : Heap} (H : ref03_block.body key0 turn1 R h) : HC Try.prog F.ref03_block #[(.slice key0.a key0.n key0.c), (.int .u8 turn1)] R h :=
  evFn_sound mixed Try.func21 (by kernel_rfl) (ref03_block.eq key0 turn1 R h ▸ H)

/-! zugzwang/zugzwangref03.Of -/
def ref03_Of.body (key0 : Sl) (b1 : Sl) (R : Value → Heap → Prop) (h : Heap) : Prop :=
  newK h (zerosOf Try.prog T.api_Tag) T.api_Tag (fun (v_1 : Option Addr) (h : Heap) =>
  callK Try.prog .slice F.ref03_block #[(.slice key0.a key0.n key0.c), (.int .u8 54)] (fun (v_2 : Sl) (h : Heap) =>
  opK Try.prog .slice (Builtin.append_ #[T.sl_uint8, T.sl_uint8] T.sl_uint8 #[(.slice v_2.a v_2.n v_2.c), (.slice b1.a b1.n b1.c)]) (fun (v_3 : Sl) (h : Heap) =>
  callK Try.prog .agg F.ref02_Of #[(.slice v_3.a v_3.n v_3.c)] (fun (v_4 : Array Value) (h : Heap) =>
  newK h (zerosOf Try.prog T.api_Tag) T.api_Tag (fun (inner_5 : Option Addr) (h : Heap) =>
  storeAggK (sizeOfT Try.prog T.api_Tag) h inner_5 v_4 (fun (h : Heap) =>
  loadAggK (sizeOfT Try.prog T.api_Tag) h inner_5 (fun (v_6 : Array Value) =>
  callK Try.prog .slice F.ref03_block #[(.slice key0.a key0.n key0.c), (.int .u8 92)] (fun (v_7 : Sl) (h : Heap) =>
  stillAggK (sizeOfT Try.prog T.api_Tag) h inner_5 v_6 ∧
  callK Try.prog .slice F.ref03_bytes #[(.agg v_6)] (fun (v_8 : Sl) (h : Heap) =>
  opK Try.prog .slice (Builtin.append_ #[T.sl_uint8, T.sl_uint8] T.sl_uint8 #[(.slice v_7.a v_7.n v_7.c), (.slice v_8.a v_8.n v_8.c)]) (fun (v_9 : Sl) (h : Heap) =>
  callK Try.prog .agg F.ref02_Of #[(.slice v_9.a v_9.n v_9.c)] (fun (v_10 : Array Value) (h : Heap) =>
  storeAggK (sizeOfT Try.prog T.api_Tag) h v_1 v_10 (fun (h : Heap) =>
  quietK Try.prog .agg (Instr.loadAt T.api_Tag (.pointer v_1)) (fun (r_11 : Array Value) =>
  R (.agg r_11) h) h)) h) h) h) h)))) h) h) h)
def ref03_Of.ann : Ann := (.seq .leaf (.seq .leaf (.seq (.any (.loc 0 (.st 2 120 (.last 1 (.last 3 (.last 4 (.last 5 (.last 6 .done)))))))) .leaf)))
theorem ref03_Of.eq (key0 : Sl) (b1 : Sl) (R : Value → Heap → Prop) (h : Heap) : ref03_Of.body key0 b1 R h = evFn Try.prog Try.f10 ref03_Of.ann [(.slice key0.a key0.n key0.c), (.slice b1.a b1.n b1.c)] R h := by kernel_rfl
theorem ref03_Of.calls {key0 : Sl} {b1 : Sl} {R : Value → Heap → Prop} {h : Heap} (H : ref03_Of.body key0 b1 R h) : HC Try.prog F.ref03_Of #[(.slice key0.a key0.n key0.c), (.slice b1.a b1.n b1.c)] R h :=
  evFn_sound mixed Try.func10 (by kernel_rfl) (ref03_Of.eq key0 b1 R h ▸ H)

/-! zugzwang/zugzwangref02.Join -/
def ref02_Join.body (rows0 : Sl) (R : Value → Heap → Prop) (h : Heap) : Prop :=
  newSlK h 0 #[] T.uint8 (fun (v_1 : Sl) (h : Heap) =>
  loopW (fun X_3 (s_2 : Sl × Int) (h : Heap) =>
  if (decide (s_2.2 < ((rows0.n : Int)))) = true then
  idxK rows0 s_2.2 (sizeOfT Try.prog T.sl_uint8) (fun (a_4 : Addr) =>
  loadK .slice h ((some a_4)) (fun (v_5 : Sl) =>
  opK Try.prog .slice (Builtin.append_ #[T.sl_uint8, T.sl_uint8] T.sl_uint8 #[(.slice s_2.1.a s_2.1.n s_2.1.c), (.slice v_5.a v_5.n v_5.c)]) (fun (v_6 : Sl) (h : Heap) =>
  X_3 (v_6, IntKind.i64.wrap (s_2.2 + 1)) h) h))
  else
  R (.slice s_2.1.a s_2.1.n s_2.1.c) h) (v_1, 0) h)
def ref02_Join.ann : Ann := (.seq .leaf (.seq .leaf (.seq (.seq .leaf (.block (.loop [(3, .slice), (4, (.int .i64))] (.seq (.seq .leaf (.cond .leaf .leaf)) (.seq (.block .leaf) .leaf))))) (.seq .leaf .leaf))))
theorem ref02_Join.eq (rows0 : Sl) (R : Value → Heap → Prop) (h : Heap) : ref02_Join.body rows0 R h = evFn Try.prog Try.f11 ref02_Join.ann [(.slice rows0.a rows0.n rows0.c)] R h := by kernel_rfl
theorem ref02_Join.calls {rows0 : Sl} {R : Value → Heap → Prop} {h : Heap} (H : ref02_Join.body rows0 R h) : HC Try.prog F.ref02_Join #[(.slice rows0.a rows0.n rows0.c)] R h :=
  evFn_sound mixed Try.func11 (by kernel_rfl) (ref02_Join.eq rows0 R h ▸ H)

/-! zugzwang/mac.Same -/
def mac_Same.body (a0 : Array Value) (b1 : Array Value) (R : Value → Heap → Prop) (h : Heap) : Prop :=
  newK h a0 T.api_Tag (fun (a_1 : Option Addr) (h : Heap) =>
  newK h b1 T.api_Tag (fun (b_2 : Option Addr) (h : Heap) =>
  loopW (fun X_4 (s_3 : Int × Int) (h : Heap) =>
  if (decide (s_3.2 < 32)) = true then
  idxArrK a_1 32 s_3.2 (sizeOfT Try.prog T.uint8) (fun (a_5 : Addr) =>
  loadK (.int .u8) h ((some a_5)) (fun (v_6 : Int) =>
  idxArrK b_2 32 s_3.2 (sizeOfT Try.prog T.uint8) (fun (a_7 : Addr) =>
  loadK (.int .u8) h ((some a_7)) (fun (v_8 : Int) =>
  X_4 (IntKind.u8.wrap (BitVec.ofInt (IntKind.bits .u8) s_3.1 ||| BitVec.ofInt (IntKind.bits .u8) (IntKind.u8.wrap (BitVec.ofInt (IntKind.bits .u8) v_6 ^^^ BitVec.ofInt (IntKind.bits .u8) v_8).toNat)).toNat, IntKind.i64.wrap (s_3.2 + 1)) h))))
  else
  R (.bool (s_3.1 == 0)) h) (0, 0) h))
def mac_Same.ann : Ann := (.seq .leaf (.seq .leaf (.seq (.seq .leaf (.block (.loop [(5, (.int .u8)), (7, (.int .i64))] (.seq .leaf (.seq (.cond .leaf .leaf) (.seq (.block (.seq .leaf .leaf)) .leaf)))))) (.seq .leaf .leaf))))
theorem mac_Same.eq (a0 : Array Value) (b1 : Array Value) (R : Value → Heap → Prop) (h : Heap) : mac_Same.body a0 b1 R h = evFn Try.prog Try.f15 mac_Same.ann [(.agg a0), (.agg b1)] R h := by kernel_rfl
theorem mac_Same.calls {a0 : Array Value} {b1 : Array Value} {R : Value → Heap → Prop} {h : Heap} (H : mac_Same.body a0 b1 R h) : HC Try.prog F.mac_Same #[(.agg a0), (.agg b1)] R h :=
  evFn_sound mixed Try.func15 (by kernel_rfl) (mac_Same.eq a0 b1 R h ▸ H)

/-! zugzwang/mac.Check -/
def mac_Check.body (key0 : Sl) (t1 : Array Value) (rows2 : Sl) (R : Value → Heap → Prop) (h : Heap) : Prop :=
  newK h t1 T.api_Tag (fun (t_1 : Option Addr) (h : Heap) =>
  loadAggK (sizeOfT Try.prog T.api_Tag) h t_1 (fun (v_2 : Array Value) =>
  callK Try.prog .agg F.mac_Of #[(.slice key0.a key0.n key0.c), (.slice rows2.a rows2.n rows2.c)] (fun (v_3 : Array Value) (h : Heap) =>
  stillAggK (sizeOfT Try.prog T.api_Tag) h t_1 v_2 ∧
  callK Try.prog .bool F.mac_Same #[(.agg v_3), (.agg v_2)] (fun (v_4 : Bool) (h : Heap) =>
  if (!v_4) = true then
  R (.int .i64 7) h
  else
  R (.int .i64 0) h) h) h))
def mac_Check.ann : Ann := (.seq .leaf (.seq (.seq (.any (.loc 0 (.loc 1 (.st 3 48 (.last 2 (.last 4 (.loc 5 .done))))))) (.cond (.seq .leaf .leaf) .leaf)) (.seq .leaf .leaf)))
theorem mac_Check.eq (key0 : Sl) (t1 : Array Value) (rows2 : Sl) (R : Value → Heap → Prop) (h : Heap) : mac_Check.body key0 t1 rows2 R h = evFn Try.prog Try.f13 mac_Check.ann [(.slice key0.a key0.n key0.c), (.agg t1), (.slice rows2.a rows2.n rows2.c)] R h := by kernel_rfl
theorem mac_Check.calls {key0 : Sl} {t1 : Array Value} {rows2 : Sl} {R : Value → Heap → Prop} {h : Heap} (H : mac_Check.body key0 t1 rows2 R h) : HC Try.prog F.mac_Check #[(.slice key0.a key0.n key0.c), (.agg t1), (.slice rows2.a rows2.n rows2.c)] R h :=
  evFn_sound mixed Try.func13 (by kernel_rfl) (mac_Check.eq key0 t1 rows2 R h ▸ H)

/-! zugzwang/zugzwangref03.Check -/
def ref03_Check.body (key0 : Sl) (t1 : Array Value) (b2 : Sl) (R : Value → Heap → Prop) (h : Heap) : Prop :=
  newK h t1 T.api_Tag (fun (t_1 : Option Addr) (h : Heap) =>
  loadAggK (sizeOfT Try.prog T.api_Tag) h t_1 (fun (v_2 : Array Value) =>
  callK Try.prog .agg F.ref03_Of #[(.slice key0.a key0.n key0.c), (.slice b2.a b2.n b2.c)] (fun (v_3 : Array Value) (h : Heap) =>
  stillAggK (sizeOfT Try.prog T.api_Tag) h t_1 v_2 ∧
  eqK Try.prog (binSem .neq T.api_Tag (.tmp 9) (.tmp 10) (.agg v_3) (.agg v_2)) (fun (v_4 : Bool) =>
  if v_4 = true then
  R (.int .i64 7) h
  else
  R (.int .i64 0) h)) h))
def ref03_Check.ann : Ann := (.seq .leaf (.seq (.seq (.any (.loc 0 (.loc 1 (.st 3 16 (.last 2 (.loc 4 .done)))))) (.cond (.seq .leaf .leaf) .leaf)) (.seq .leaf .leaf)))
theorem ref03_Check.eq (key0 : Sl) (t1 : Array Value) (b2 : Sl) (R : Value → Heap → Prop) (h : Heap) : ref03_Check.body key0 t1 b2 R h = evFn Try.prog Try.f14 ref03_Check.ann [(.slice key0.a key0.n key0.c), (.agg t1), (.slice b2.a b2.n b2.c)] R h := by kernel_rfl
theorem ref03_Check.calls {key0 : Sl} {t1 : Array Value} {b2 : Sl} {R : Value → Heap → Prop} {h : Heap} (H : ref03_Check.body key0 t1 b2 R h) : HC Try.prog F.ref03_Check #[(.slice key0.a key0.n key0.c), (.agg t1), (.slice b2.a b2.n b2.c)] R h :=
  evFn_sound mixed Try.func14 (by kernel_rfl) (ref03_Check.eq key0 t1 b2 R h ▸ H)

/-! zugzwang/zugzwangkit.KeptBytes -/
def kit_KeptBytes.body (out0 : Sl) (l1 : Sl) (R : Value → Heap → Prop) (h : Heap) : Prop :=
  if (((out0.n : Int)) != ((l1.n : Int))) = true then
  R (.bool false) h
  else
  sliceK out0 none (some (IntKind.i64.wrap (((l1.n : Int)) + 12))) none (sizeOfT Try.prog T.uint8) (fun (v_1 : Sl) =>
  loopW (fun X_3 (s_2 : Int) (h : Heap) =>
  if (decide (s_2 < ((v_1.n : Int)))) = true then
  if (decide (s_2 < ((l1.n : Int)))) = true then
  idxK v_1 s_2 (sizeOfT Try.prog T.uint8) (fun (a_4 : Addr) =>
  loadK (.int .u8) h ((some a_4)) (fun (v_5 : Int) =>
  idxK l1 s_2 (sizeOfT Try.prog T.uint8) (fun (a_6 : Addr) =>
  loadK (.int .u8) h ((some a_6)) (fun (v_7 : Int) =>
  if (!(v_5 == v_7)) = true then
  R (.bool false) h
  else
  if (decide (s_2 ≥ ((l1.n : Int)))) = true then
  idxK v_1 s_2 (sizeOfT Try.prog T.uint8) (fun (a_8 : Addr) =>
  loadK (.int .u8) h ((some a_8)) (fun (v_9 : Int) =>
  callQ Try.prog (.int .u8) F.kit_markByte #[(.int .i64 1), (.int .i64 (IntKind.i64.wrap (s_2 - ((l1.n : Int)))))] (fun (v_10 : Int) =>
  if (!(v_9 == v_10)) = true then
  R (.bool false) h
  else
  X_3 (IntKind.i64.wrap (s_2 + 1)) h) h))
  else
  X_3 (IntKind.i64.wrap (s_2 + 1)) h))))
  else
  if (decide (s_2 ≥ ((l1.n : Int)))) = true then
  idxK v_1 s_2 (sizeOfT Try.prog T.uint8) (fun (a_11 : Addr) =>
  loadK (.int .u8) h ((some a_11)) (fun (v_12 : Int) =>
  callQ Try.prog (.int .u8) F.kit_markByte #[(.int .i64 1), (.int .i64 (IntKind.i64.wrap (s_2 - ((l1.n : Int)))))] (fun (v_13 : Int) =>
  if (!(v_12 == v_13)) = true then
  R (.bool false) h
  else
  X_3 (IntKind.i64.wrap (s_2 + 1)) h) h))
  else
  X_3 (IntKind.i64.wrap (s_2 + 1)) h
  else
  R (.bool true) h) 0 h)
def kit_KeptBytes.ann : Ann := (.seq .leaf (.seq (.seq .leaf (.cond (.seq .leaf .leaf) .leaf)) (.seq .leaf (.seq (.seq .leaf (.block (.loop [(6, (.int .i64))] (.seq (.seq .leaf (.cond .leaf .leaf)) (.seq (.block (.seq .leaf (.cond (.seq .leaf .leaf) .leaf))) .leaf))))) (.seq .leaf .leaf)))))
theorem kit_KeptBytes.eq (out0 : Sl) (l1 : Sl) (R : Value → Heap → Prop) (h : Heap) : kit_KeptBytes.body out0 l1 R h = evFn Try.prog Try.f16 kit_KeptBytes.ann [(.slice out0.a out0.n out0.c), (.slice l1.a l1.n l1.c)] R h := by kernel_rfl
theorem kit_KeptBytes.calls {out0 : Sl} {l1 : Sl} {R : Value → Heap → Prop} {h : Heap} (H : kit_KeptBytes.body out0 l1 R h) : HC Try.prog F.kit_KeptBytes #[(.slice out0.a out0.n out0.c), (.slice l1.a l1.n l1.c)] R h :=
  evFn_sound mixed Try.func16 (by kernel_rfl) (kit_KeptBytes.eq out0 l1 R h ▸ H)

/-! zugzwang/zugzwanglaw03.MacTells -/
def law03_MacTells.body (key0 : Sl) (rows1 : Sl) (t2 : Array Value) (R : Value → Heap → Prop) (h : Heap) : Prop :=
  newK h t2 T.api_Tag (fun (t_1 : Option Addr) (h : Heap) =>
  callK Try.prog (.int .i64) F.law03_size #[(.slice rows1.a rows1.n rows1.c)] (fun (v_2 : Int) (h : Heap) =>
  if (decide ((IntKind.i64.wrap (((key0.n : Int)) + v_2)) > 700)) = true then
  callK Try.prog .bool F.law03_awake #[] (fun (v_3 : Bool) (h : Heap) =>
  R (.bool v_3) h) h
  else
  callK Try.prog .slice F.kit_LentBytes #[(.slice key0.a key0.n key0.c)] (fun (v_4 : Sl) (h : Heap) =>
  loopW (fun X_6 (s_5 : Sl × Int) (h : Heap) =>
  if (decide (s_5.2 < ((rows1.n : Int)))) = true then
  idxK rows1 s_5.2 (sizeOfT Try.prog T.sl_uint8) (fun (a_7 : Addr) =>
  loadK .slice h ((some a_7)) (fun (v_8 : Sl) =>
  callK Try.prog .slice F.kit_LentBytes #[(.slice v_8.a v_8.n v_8.c)] (fun (v_9 : Sl) (h : Heap) =>
  newSlK h 1 #[(.slice v_9.a v_9.n v_9.c)] T.sl_uint8 (fun (v_10 : Sl) (h : Heap) =>
  opK Try.prog .slice (Builtin.append_ #[T.sl_sl_uint8, T.sl_sl_uint8] T.sl_sl_uint8 #[(.slice s_5.1.a s_5.1.n s_5.1.c), (.slice v_10.a v_10.n v_10.c)]) (fun (v_11 : Sl) (h : Heap) =>
  X_6 (v_11, IntKind.i64.wrap (s_5.2 + 1)) h) h)) h))
  else
  callK Try.prog .slice F.ref02_Join #[(.slice rows1.a rows1.n rows1.c)] (fun (v_12 : Sl) (h : Heap) =>
  callK Try.prog .agg F.ref03_Of #[(.slice key0.a key0.n key0.c), (.slice v_12.a v_12.n v_12.c)] (fun (v_13 : Array Value) (h : Heap) =>
  newK h (zerosOf Try.prog T.api_Tag) T.api_Tag (fun (want_14 : Option Addr) (h : Heap) =>
  storeAggK (sizeOfT Try.prog T.api_Tag) h want_14 v_13 (fun (h : Heap) =>
  callK Try.prog .agg F.mac_Of #[(.slice v_4.a v_4.n v_4.c), (.slice s_5.1.a s_5.1.n s_5.1.c)] (fun (v_15 : Array Value) (h : Heap) =>
  newK h (zerosOf Try.prog T.api_Tag) T.api_Tag (fun (got_16 : Option Addr) (h : Heap) =>
  storeAggK (sizeOfT Try.prog T.api_Tag) h got_16 v_15 (fun (h : Heap) =>
  joinW (fun (s_17 : Bool) (h : Heap) =>
  loopW (fun X_19 (s_18 : Int) (h : Heap) =>
  if (decide (s_18 < ((rows1.n : Int)))) = true then
  idxK s_5.1 s_18 (sizeOfT Try.prog T.sl_uint8) (fun (a_20 : Addr) =>
  loadK .slice h ((some a_20)) (fun (v_21 : Sl) =>
  idxK rows1 s_18 (sizeOfT Try.prog T.sl_uint8) (fun (a_22 : Addr) =>
  loadK .slice h ((some a_22)) (fun (v_23 : Sl) =>
  callQ Try.prog .bool F.kit_KeptBytes #[(.slice v_21.a v_21.n v_21.c), (.slice v_23.a v_23.n v_23.c)] (fun (v_24 : Bool) =>
  if (!v_24) = true then
  R (.bool false) h
  else
  X_19 (IntKind.i64.wrap (s_18 + 1)) h) h))))
  else
  if s_17 = true then
  callK Try.prog .bool F.kit_KeptBytes #[(.slice v_4.a v_4.n v_4.c), (.slice key0.a key0.n key0.c)] (fun (v_25 : Bool) (h : Heap) =>
  if v_25 = true then
  callK Try.prog .bool F.law03_awake #[] (fun (v_26 : Bool) (h : Heap) =>
  R (.bool v_26) h) h
  else
  R (.bool false) h) h
  else
  R (.bool false) h) 0 h)
  (fun J_27 =>
  loadAggK (sizeOfT Try.prog T.api_Tag) h got_16 (fun (v_28 : Array Value) =>
  loadAggK (sizeOfT Try.prog T.api_Tag) h want_14 (fun (v_29 : Array Value) =>
  eqK Try.prog (binSem .eql T.api_Tag (.tmp 44) (.tmp 45) (.agg v_28) (.agg v_29)) (fun (v_30 : Bool) =>
  if v_30 = true then
  loadAggK (sizeOfT Try.prog T.api_Tag) h t_1 (fun (v_31 : Array Value) =>
  loadAggK (sizeOfT Try.prog T.api_Tag) h t_1 (fun (v_32 : Array Value) =>
  callK Try.prog (.int .i64) F.mac_Check #[(.slice v_4.a v_4.n v_4.c), (.agg v_31), (.slice s_5.1.a s_5.1.n s_5.1.c)] (fun (v_33 : Int) (h : Heap) =>
  stillAggK (sizeOfT Try.prog T.api_Tag) h t_1 v_32 ∧
  callK Try.prog .slice F.ref02_Join #[(.slice rows1.a rows1.n rows1.c)] (fun (v_34 : Sl) (h : Heap) =>
  stillAggK (sizeOfT Try.prog T.api_Tag) h t_1 v_32 ∧
  callK Try.prog (.int .i64) F.ref03_Check #[(.slice key0.a key0.n key0.c), (.agg v_32), (.slice v_34.a v_34.n v_34.c)] (fun (v_35 : Int) (h : Heap) =>
  if (v_33 == v_35) = true then
  loadAggK (sizeOfT Try.prog T.api_Tag) h want_14 (fun (v_36 : Array Value) =>
  callK Try.prog (.int .i64) F.mac_Check #[(.slice v_4.a v_4.n v_4.c), (.agg v_36), (.slice s_5.1.a s_5.1.n s_5.1.c)] (fun (v_37 : Int) (h : Heap) =>
  ((if (v_37 == 0) = true then
  loadAggK (sizeOfT Try.prog T.api_Tag) h t_1 (fun (v_38 : Array Value) =>
  loadAggK (sizeOfT Try.prog T.api_Tag) h want_14 (fun (v_39 : Array Value) =>
  loadAggK (sizeOfT Try.prog T.api_Tag) h t_1 (fun (v_40 : Array Value) =>
  loadAggK (sizeOfT Try.prog T.api_Tag) h want_14 (fun (v_41 : Array Value) =>
  eqK Try.prog (binSem .eql T.api_Tag (.tmp 70) (.tmp 71) (.agg v_40) (.agg v_41)) (fun (v_42 : Bool) =>
  callK Try.prog .bool F.mac_Same #[(.agg v_38), (.agg v_39)] (fun (v_43 : Bool) (h : Heap) =>
  stillAggK (sizeOfT Try.prog T.api_Tag) h want_14 v_41 ∧
  stillAggK (sizeOfT Try.prog T.api_Tag) h t_1 v_40 ∧
  J_27 (v_43 == v_42) h) h)))))
  else
  J_27 false h) ∧
  (((if (v_37 == 0) = true then
  loadAggK (sizeOfT Try.prog T.api_Tag) h want_14 (fun (v_44 : Array Value) =>
  loadAggK (sizeOfT Try.prog T.api_Tag) h t_1 (fun (v_45 : Array Value) =>
  loadAggK (sizeOfT Try.prog T.api_Tag) h t_1 (fun (v_46 : Array Value) =>
  loadAggK (sizeOfT Try.prog T.api_Tag) h want_14 (fun (v_47 : Array Value) =>
  eqK Try.prog (binSem .eql T.api_Tag (.tmp 70) (.tmp 71) (.agg v_46) (.agg v_47)) (fun (v_48 : Bool) =>
  callK Try.prog .bool F.mac_Same #[(.agg v_45), (.agg v_44)] (fun (v_49 : Bool) (h : Heap) =>
  stillAggK (sizeOfT Try.prog T.api_Tag) h want_14 v_47 ∧
  stillAggK (sizeOfT Try.prog T.api_Tag) h t_1 v_46 ∧
  J_27 (v_49 == v_48) h) h)))))
  else
  J_27 false h) ∧
  (((if (v_37 == 0) = true then
  loadAggK (sizeOfT Try.prog T.api_Tag) h t_1 (fun (v_50 : Array Value) =>
  loadAggK (sizeOfT Try.prog T.api_Tag) h t_1 (fun (v_51 : Array Value) =>
  loadAggK (sizeOfT Try.prog T.api_Tag) h want_14 (fun (v_52 : Array Value) =>
  loadAggK (sizeOfT Try.prog T.api_Tag) h want_14 (fun (v_53 : Array Value) =>
  eqK Try.prog (binSem .eql T.api_Tag (.tmp 70) (.tmp 71) (.agg v_50) (.agg v_53)) (fun (v_54 : Bool) =>
  callK Try.prog .bool F.mac_Same #[(.agg v_51), (.agg v_52)] (fun (v_55 : Bool) (h : Heap) =>
  stillAggK (sizeOfT Try.prog T.api_Tag) h want_14 v_53 ∧
  J_27 (v_55 == v_54) h) h)))))
  else
  J_27 false h) ∧
  (if (v_37 == 0) = true then
  loadAggK (sizeOfT Try.prog T.api_Tag) h want_14 (fun (v_56 : Array Value) =>
  loadAggK (sizeOfT Try.prog T.api_Tag) h t_1 (fun (v_57 : Array Value) =>
  loadAggK (sizeOfT Try.prog T.api_Tag) h want_14 (fun (v_58 : Array Value) =>
  loadAggK (sizeOfT Try.prog T.api_Tag) h t_1 (fun (v_59 : Array Value) =>
  eqK Try.prog (binSem .eql T.api_Tag (.tmp 70) (.tmp 71) (.agg v_59) (.agg v_56)) (fun (v_60 : Bool) =>
  callK Try.prog .bool F.mac_Same #[(.agg v_57), (.agg v_58)] (fun (v_61 : Bool) (h : Heap) =>
  stillAggK (sizeOfT Try.prog T.api_Tag) h t_1 v_59 ∧
  J_27 (v_61 == v_60) h) h)))))
  else
  J_27 false h))))))) h)
  else
  J_27 false h) h) h) h))
  else
  J_27 false h))))))) h))) h) h) (⟨none, 0, 0⟩, 0) h) h) h)
def law03_MacTells.ann : Ann := (.seq .leaf (.seq (.seq .leaf (.cond (.seq .leaf .leaf) .leaf)) (.seq .leaf (.seq .leaf (.seq (.seq .leaf (.block (.loop [(8, .slice), (9, (.int .i64))] (.seq (.seq .leaf (.cond .leaf .leaf)) (.seq (.block .leaf) .leaf))))) (.seq .leaf (.seq .leaf (.join [(12, .bool)] (.any (.st 0 4294967292 (.st 1 4294967292 (.loc 2 (.loc 3 (.locA 4 (.loc 6 (.loc 8 (.loc 10 (.st 5 4294965376 (.st 9 4294963200 (.last 7 (.last 11 (.last 12 (.loc 13 (.loc 14 (.loc 15 (.locA 16 (.loc 18 (.st 17 4294443008 (.last 19 (.loc 20 (.loc 21 (.loc 22 (.altA 23 (.st 24 3791650816 (.st 26 4026531840 (.st 27 4026531840 (.loc 28 (.last 25 (.loc 29 (.loc 30 (.loc 31 .done)))))))) (.loc 24 (.loc 25 (.loc 26 (.loc 27 (.loc 28 (.loc 29 (.loc 30 (.loc 31 .done)))))))) (.altA 24 (.st 23 3791650816 (.st 26 4026531840 (.st 27 4026531840 (.loc 28 (.last 25 (.loc 29 (.loc 30 (.loc 31 .done)))))))) (.loc 23 (.loc 25 (.loc 26 (.loc 27 (.loc 28 (.loc 29 (.loc 30 (.loc 31 .done)))))))) (.altA 26 (.st 23 3791650816 (.st 24 3791650816 (.st 27 4026531840 (.loc 28 (.last 25 (.loc 29 (.loc 30 (.loc 31 .done)))))))) (.loc 23 (.loc 24 (.loc 25 (.loc 27 (.loc 28 (.loc 29 (.loc 30 (.loc 31 .done)))))))) (.lastA 27 (.st 23 3791650816 (.st 24 3791650816 (.st 26 4026531840 (.loc 28 (.last 25 (.loc 29 (.loc 30 (.loc 31 .done)))))))) (.loc 23 (.loc 24 (.loc 25 (.loc 26 (.loc 28 (.loc 29 (.loc 30 (.loc 31 .done)))))))))))))))))) (.loc 17 (.loc 18 (.loc 19 (.loc 20 (.loc 21 (.loc 22 (.loc 23 (.loc 24 (.loc 25 (.loc 26 (.loc 27 (.loc 28 (.loc 29 (.loc 30 (.loc 31 .done))))))))))))))))))))))))))) (.loc 5 (.loc 6 (.loc 7 (.loc 8 (.loc 9 (.loc 10 (.loc 11 (.loc 12 (.loc 13 (.loc 14 (.loc 15 (.loc 16 (.loc 17 (.loc 18 (.loc 19 (.loc 20 (.loc 21 (.loc 22 (.loc 23 (.loc 24 (.loc 25 (.loc 26 (.loc 27 (.loc 28 (.loc 29 (.loc 30 (.loc 31 .done))))))))))))))))))))))))))))))))) (.seq (.seq .leaf (.block (.loop [(13, (.int .i64))] (.seq (.seq .leaf (.cond .leaf .leaf)) (.seq (.block (.seq .leaf (.cond (.seq .leaf .leaf) .leaf))) .leaf))))) (.seq .leaf .leaf))))))))))
theorem law03_MacTells.eq (key0 : Sl) (rows1 : Sl) (t2 : Array Value) (R : Value → Heap → Prop) (h : Heap) : law03_MacTells.body key0 rows1 t2 R h = evFn Try.prog Try.f3 law03_MacTells.ann [(.slice key0.a key0.n key0.c), (.slice rows1.a rows1.n rows1.c), (.agg t2)] R h := by kernel_rfl
theorem law03_MacTells.calls {key0 : Sl} {rows1 : Sl} {t2 : Array Value} {R : Value → Heap → Prop} {h : Heap} (H : law03_MacTells.body key0 rows1 t2 R h) : HC Try.prog F.law03_MacTells #[(.slice key0.a key0.n key0.c), (.slice rows1.a rows1.n rows1.c), (.agg t2)] R h :=
  evFn_sound mixed Try.func3 (by kernel_rfl) (law03_MacTells.eq key0 rows1 t2 R h ▸ H)

/-! zugzwang/zugzwangkit.Pick -/
def kit_Pick.body (x0 : Int) (n1 : Int) (R : Value → Heap → Prop) (h : Heap) : Prop :=
  if (decide (n1 < 1)) = true then
  R (.int .i64 0) h
  else
  divK n1
  (if (decide ((Int.tmod x0 n1) < 0)) = true then
  R (.int .i64 (IntKind.i64.wrap ((Int.tmod x0 n1) + n1))) h
  else
  R (.int .i64 (Int.tmod x0 n1)) h)
def kit_Pick.ann : Ann := (.seq .leaf (.seq (.seq .leaf (.cond (.seq .leaf .leaf) .leaf)) (.seq .leaf (.seq (.seq .leaf (.cond .leaf .leaf)) (.seq .leaf .leaf)))))
theorem kit_Pick.eq (x0 : Int) (n1 : Int) (R : Value → Heap → Prop) (h : Heap) : kit_Pick.body x0 n1 R h = evFn Try.prog Try.f17 kit_Pick.ann [(.int .i64 x0), (.int .i64 n1)] R h := by kernel_rfl
theorem kit_Pick.calls {x0 : Int} {n1 : Int} {R : Value → Heap → Prop} {h : Heap} (H : kit_Pick.body x0 n1 R h) : HC Try.prog F.kit_Pick #[(.int .i64 x0), (.int .i64 n1)] R h :=
  evFn_sound mixed Try.func17 (by kernel_rfl) (kit_Pick.eq x0 n1 R h ▸ H)

/-! zugzwang/zugzwanglaw03.MacSame -/
def law03_MacSame.body (a0 : Array Value) (b1 : Array Value) (key2 : Sl) (rest3 : Sl) (at4 : Int) (turn5 : Int) (R : Value → Heap → Prop) (h : Heap) : Prop :=
  newK h a0 T.api_Tag (fun (a_1 : Option Addr) (h : Heap) =>
  newK h b1 T.api_Tag (fun (b_2 : Option Addr) (h : Heap) =>
  callK Try.prog .bool F.law03_awake #[] (fun (v_3 : Bool) (h : Heap) =>
  if (!v_3) = true then
  R (.bool false) h
  else
  if (decide ((IntKind.i64.wrap (((key2.n : Int)) + ((rest3.n : Int)))) > 700)) = true then
  R (.bool true) h
  else
  loadAggK (sizeOfT Try.prog T.api_Tag) h a_1 (fun (v_4 : Array Value) =>
  newK h (zerosOf Try.prog T.api_Tag) T.api_Tag (fun (c_5 : Option Addr) (h : Heap) =>
  storeAggK (sizeOfT Try.prog T.api_Tag) h c_5 v_4 (fun (h : Heap) =>
  callK Try.prog (.int .i64) F.kit_Pick #[(.int .i64 at4), (.int .i64 32)] (fun (v_6 : Int) (h : Heap) =>
  idxArrK c_5 32 v_6 (sizeOfT Try.prog T.uint8) (fun (a_7 : Addr) =>
  loadK (.int .u8) h ((some a_7)) (fun (v_8 : Int) =>
  idxArrK c_5 32 v_6 (sizeOfT Try.prog T.uint8) (fun (a_9 : Addr) =>
  storeK h ((some a_9)) (.int .u8 (IntKind.u8.wrap (BitVec.ofInt (IntKind.bits .u8) v_8 ^^^ BitVec.ofInt (IntKind.bits .u8) turn5).toNat)) (fun (h : Heap) =>
  newSlK h 1 #[(.slice rest3.a rest3.n rest3.c)] T.sl_uint8 (fun (v_10 : Sl) (h : Heap) =>
  callK Try.prog .agg F.mac_Of #[(.slice key2.a key2.n key2.c), (.slice v_10.a v_10.n v_10.c)] (fun (v_11 : Array Value) (h : Heap) =>
  newK h (zerosOf Try.prog T.api_Tag) T.api_Tag (fun (t_12 : Option Addr) (h : Heap) =>
  storeAggK (sizeOfT Try.prog T.api_Tag) h t_12 v_11 (fun (h : Heap) =>
  loadAggK (sizeOfT Try.prog T.api_Tag) h a_1 (fun (v_13 : Array Value) =>
  loadAggK (sizeOfT Try.prog T.api_Tag) h b_2 (fun (v_14 : Array Value) =>
  loadAggK (sizeOfT Try.prog T.api_Tag) h a_1 (fun (v_15 : Array Value) =>
  loadAggK (sizeOfT Try.prog T.api_Tag) h b_2 (fun (v_16 : Array Value) =>
  eqK Try.prog (binSem .eql T.api_Tag (.tmp 41) (.tmp 42) (.agg v_15) (.agg v_16)) (fun (v_17 : Bool) =>
  callK Try.prog .bool F.mac_Same #[(.agg v_13), (.agg v_14)] (fun (v_18 : Bool) (h : Heap) =>
  stillAggK (sizeOfT Try.prog T.api_Tag) h b_2 v_16 ∧
  stillAggK (sizeOfT Try.prog T.api_Tag) h a_1 v_15 ∧
  ((if (v_18 == v_17) = true then
  loadAggK (sizeOfT Try.prog T.api_Tag) h b_2 (fun (v_19 : Array Value) =>
  loadAggK (sizeOfT Try.prog T.api_Tag) h a_1 (fun (v_20 : Array Value) =>
  loadAggK (sizeOfT Try.prog T.api_Tag) h a_1 (fun (v_21 : Array Value) =>
  loadAggK (sizeOfT Try.prog T.api_Tag) h b_2 (fun (v_22 : Array Value) =>
  eqK Try.prog (binSem .eql T.api_Tag (.tmp 49) (.tmp 50) (.agg v_21) (.agg v_22)) (fun (v_23 : Bool) =>
  callK Try.prog .bool F.mac_Same #[(.agg v_19), (.agg v_20)] (fun (v_24 : Bool) (h : Heap) =>
  stillAggK (sizeOfT Try.prog T.api_Tag) h b_2 v_22 ∧
  stillAggK (sizeOfT Try.prog T.api_Tag) h a_1 v_21 ∧
  if (v_24 == v_23) = true then
  loadAggK (sizeOfT Try.prog T.api_Tag) h a_1 (fun (v_25 : Array Value) =>
  loadAggK (sizeOfT Try.prog T.api_Tag) h c_5 (fun (v_26 : Array Value) =>
  callK Try.prog .bool F.mac_Same #[(.agg v_25), (.agg v_26)] (fun (v_27 : Bool) (h : Heap) =>
  if (v_27 == (turn5 == 0)) = true then
  loadAggK (sizeOfT Try.prog T.api_Tag) h c_5 (fun (v_28 : Array Value) =>
  loadAggK (sizeOfT Try.prog T.api_Tag) h c_5 (fun (v_29 : Array Value) =>
  loadAggK (sizeOfT Try.prog T.api_Tag) h t_12 (fun (v_30 : Array Value) =>
  eqK Try.prog (binSem .eql T.api_Tag (.tmp 69) (.tmp 70) (.agg v_29) (.agg v_30)) (fun (v_31 : Bool) =>
  newSlK h 1 #[(.slice rest3.a rest3.n rest3.c)] T.sl_uint8 (fun (v_32 : Sl) (h : Heap) =>
  callK Try.prog (.int .i64) F.mac_Check #[(.slice key2.a key2.n key2.c), (.agg v_28), (.slice v_32.a v_32.n v_32.c)] (fun (v_33 : Int) (h : Heap) =>
  stillAggK (sizeOfT Try.prog T.api_Tag) h t_12 v_30 ∧
  stillAggK (sizeOfT Try.prog T.api_Tag) h c_5 v_29 ∧
  if ((v_33 == 0) == v_31) = true then
  loadAggK (sizeOfT Try.prog T.api_Tag) h c_5 (fun (v_34 : Array Value) =>
  loadAggK (sizeOfT Try.prog T.api_Tag) h c_5 (fun (v_35 : Array Value) =>
  loadAggK (sizeOfT Try.prog T.api_Tag) h t_12 (fun (v_36 : Array Value) =>
  eqK Try.prog (binSem .neq T.api_Tag (.tmp 81) (.tmp 82) (.agg v_35) (.agg v_36)) (fun (v_37 : Bool) =>
  newSlK h 1 #[(.slice rest3.a rest3.n rest3.c)] T.sl_uint8 (fun (v_38 : Sl) (h : Heap) =>
  callK Try.prog (.int .i64) F.mac_Check #[(.slice key2.a key2.n key2.c), (.agg v_34), (.slice v_38.a v_38.n v_38.c)] (fun (v_39 : Int) (h : Heap) =>
  stillAggK (sizeOfT Try.prog T.api_Tag) h t_12 v_36 ∧
  stillAggK (sizeOfT Try.prog T.api_Tag) h c_5 v_35 ∧
  if ((v_39 == 7) == v_37) = true then
  loadAggK (sizeOfT Try.prog T.api_Tag) h t_12 (fun (v_40 : Array Value) =>
  newSlK h 1 #[(.slice rest3.a rest3.n rest3.c)] T.sl_uint8 (fun (v_41 : Sl) (h : Heap) =>
  callK Try.prog (.int .i64) F.mac_Check #[(.slice key2.a key2.n key2.c), (.agg v_40), (.slice v_41.a v_41.n v_41.c)] (fun (v_42 : Int) (h : Heap) =>
  R (.bool (v_42 == 0)) h) h))
  else
  R (.bool false) h) h)))))
  else
  R (.bool false) h) h)))))
  else
  R (.bool false) h) h))
  else
  R (.bool false) h) h)))))
  else
  R (.bool false) h) ∧
  (((if (v_18 == v_17) = true then
  loadAggK (sizeOfT Try.prog T.api_Tag) h a_1 (fun (v_43 : Array Value) =>
  loadAggK (sizeOfT Try.prog T.api_Tag) h b_2 (fun (v_44 : Array Value) =>
  loadAggK (sizeOfT Try.prog T.api_Tag) h a_1 (fun (v_45 : Array Value) =>
  loadAggK (sizeOfT Try.prog T.api_Tag) h b_2 (fun (v_46 : Array Value) =>
  eqK Try.prog (binSem .eql T.api_Tag (.tmp 49) (.tmp 50) (.agg v_45) (.agg v_46)) (fun (v_47 : Bool) =>
  callK Try.prog .bool F.mac_Same #[(.agg v_44), (.agg v_43)] (fun (v_48 : Bool) (h : Heap) =>
  stillAggK (sizeOfT Try.prog T.api_Tag) h b_2 v_46 ∧
  stillAggK (sizeOfT Try.prog T.api_Tag) h a_1 v_45 ∧
  if (v_48 == v_47) = true then
  loadAggK (sizeOfT Try.prog T.api_Tag) h a_1 (fun (v_49 : Array Value) =>
  loadAggK (sizeOfT Try.prog T.api_Tag) h c_5 (fun (v_50 : Array Value) =>
  callK Try.prog .bool F.mac_Same #[(.agg v_49), (.agg v_50)] (fun (v_51 : Bool) (h : Heap) =>
  if (v_51 == (turn5 == 0)) = true then
  loadAggK (sizeOfT Try.prog T.api_Tag) h c_5 (fun (v_52 : Array Value) =>
  loadAggK (sizeOfT Try.prog T.api_Tag) h c_5 (fun (v_53 : Array Value) =>
  loadAggK (sizeOfT Try.prog T.api_Tag) h t_12 (fun (v_54 : Array Value) =>
  eqK Try.prog (binSem .eql T.api_Tag (.tmp 69) (.tmp 70) (.agg v_53) (.agg v_54)) (fun (v_55 : Bool) =>
  newSlK h 1 #[(.slice rest3.a rest3.n rest3.c)] T.sl_uint8 (fun (v_56 : Sl) (h : Heap) =>
  callK Try.prog (.int .i64) F.mac_Check #[(.slice key2.a key2.n key2.c), (.agg v_52), (.slice v_56.a v_56.n v_56.c)] (fun (v_57 : Int) (h : Heap) =>
  stillAggK (sizeOfT Try.prog T.api_Tag) h t_12 v_54 ∧
  stillAggK (sizeOfT Try.prog T.api_Tag) h c_5 v_53 ∧
  if ((v_57 == 0) == v_55) = true then
  loadAggK (sizeOfT Try.prog T.api_Tag) h c_5 (fun (v_58 : Array Value) =>
  loadAggK (sizeOfT Try.prog T.api_Tag) h c_5 (fun (v_59 : Array Value) =>
  loadAggK (sizeOfT Try.prog T.api_Tag) h t_12 (fun (v_60 : Array Value) =>
  eqK Try.prog (binSem .neq T.api_Tag (.tmp 81) (.tmp 82) (.agg v_59) (.agg v_60)) (fun (v_61 : Bool) =>
  newSlK h 1 #[(.slice rest3.a rest3.n rest3.c)] T.sl_uint8 (fun (v_62 : Sl) (h : Heap) =>
  callK Try.prog (.int .i64) F.mac_Check #[(.slice key2.a key2.n key2.c), (.agg v_58), (.slice v_62.a v_62.n v_62.c)] (fun (v_63 : Int) (h : Heap) =>
  stillAggK (sizeOfT Try.prog T.api_Tag) h t_12 v_60 ∧
  stillAggK (sizeOfT Try.prog T.api_Tag) h c_5 v_59 ∧
  if ((v_63 == 7) == v_61) = true then
  loadAggK (sizeOfT Try.prog T.api_Tag) h t_12 (fun (v_64 : Array Value) =>
  newSlK h 1 #[(.slice rest3.a rest3.n rest3.c)] T.sl_uint8 (fun (v_65 : Sl) (h : Heap) =>
  callK Try.prog (.int .i64) F.mac_Check #[(.slice key2.a key2.n key2.c), (.agg v_64), (.slice v_65.a v_65.n v_65.c)] (fun (v_66 : Int) (h : Heap) =>
  R (.bool (v_66 == 0)) h) h))
  else
  R (.bool false) h) h)))))
  else
  R (.bool false) h) h)))))
  else
  R (.bool false) h) h))
  else
  R (.bool false) h) h)))))
  else
  R (.bool false) h) ∧
  (((if (v_18 == v_17) = true then
  loadAggK (sizeOfT Try.prog T.api_Tag) h a_1 (fun (v_67 : Array Value) =>
  loadAggK (sizeOfT Try.prog T.api_Tag) h b_2 (fun (v_68 : Array Value) =>
  loadAggK (sizeOfT Try.prog T.api_Tag) h a_1 (fun (v_69 : Array Value) =>
  loadAggK (sizeOfT Try.prog T.api_Tag) h b_2 (fun (v_70 : Array Value) =>
  eqK Try.prog (binSem .eql T.api_Tag (.tmp 49) (.tmp 50) (.agg v_67) (.agg v_70)) (fun (v_71 : Bool) =>
  callK Try.prog .bool F.mac_Same #[(.agg v_68), (.agg v_69)] (fun (v_72 : Bool) (h : Heap) =>
  stillAggK (sizeOfT Try.prog T.api_Tag) h b_2 v_70 ∧
  if (v_72 == v_71) = true then
  loadAggK (sizeOfT Try.prog T.api_Tag) h a_1 (fun (v_73 : Array Value) =>
  loadAggK (sizeOfT Try.prog T.api_Tag) h c_5 (fun (v_74 : Array Value) =>
  callK Try.prog .bool F.mac_Same #[(.agg v_73), (.agg v_74)] (fun (v_75 : Bool) (h : Heap) =>
  if (v_75 == (turn5 == 0)) = true then
  loadAggK (sizeOfT Try.prog T.api_Tag) h c_5 (fun (v_76 : Array Value) =>
  loadAggK (sizeOfT Try.prog T.api_Tag) h c_5 (fun (v_77 : Array Value) =>
  loadAggK (sizeOfT Try.prog T.api_Tag) h t_12 (fun (v_78 : Array Value) =>
  eqK Try.prog (binSem .eql T.api_Tag (.tmp 69) (.tmp 70) (.agg v_77) (.agg v_78)) (fun (v_79 : Bool) =>
  newSlK h 1 #[(.slice rest3.a rest3.n rest3.c)] T.sl_uint8 (fun (v_80 : Sl) (h : Heap) =>
  callK Try.prog (.int .i64) F.mac_Check #[(.slice key2.a key2.n key2.c), (.agg v_76), (.slice v_80.a v_80.n v_80.c)] (fun (v_81 : Int) (h : Heap) =>
  stillAggK (sizeOfT Try.prog T.api_Tag) h t_12 v_78 ∧
  stillAggK (sizeOfT Try.prog T.api_Tag) h c_5 v_77 ∧
  if ((v_81 == 0) == v_79) = true then
  loadAggK (sizeOfT Try.prog T.api_Tag) h c_5 (fun (v_82 : Array Value) =>
  loadAggK (sizeOfT Try.prog T.api_Tag) h c_5 (fun (v_83 : Array Value) =>
  loadAggK (sizeOfT Try.prog T.api_Tag) h t_12 (fun (v_84 : Array Value) =>
  eqK Try.prog (binSem .neq T.api_Tag (.tmp 81) (.tmp 82) (.agg v_83) (.agg v_84)) (fun (v_85 : Bool) =>
  newSlK h 1 #[(.slice rest3.a rest3.n rest3.c)] T.sl_uint8 (fun (v_86 : Sl) (h : Heap) =>
  callK Try.prog (.int .i64) F.mac_Check #[(.slice key2.a key2.n key2.c), (.agg v_82), (.slice v_86.a v_86.n v_86.c)] (fun (v_87 : Int) (h : Heap) =>
  stillAggK (sizeOfT Try.prog T.api_Tag) h t_12 v_84 ∧
  stillAggK (sizeOfT Try.prog T.api_Tag) h c_5 v_83 ∧
  if ((v_87 == 7) == v_85) = true then
  loadAggK (sizeOfT Try.prog T.api_Tag) h t_12 (fun (v_88 : Array Value) =>
  newSlK h 1 #[(.slice rest3.a rest3.n rest3.c)] T.sl_uint8 (fun (v_89 : Sl) (h : Heap) =>
  callK Try.prog (.int .i64) F.mac_Check #[(.slice key2.a key2.n key2.c), (.agg v_88), (.slice v_89.a v_89.n v_89.c)] (fun (v_90 : Int) (h : Heap) =>
  R (.bool (v_90 == 0)) h) h))
  else
  R (.bool false) h) h)))))
  else
  R (.bool false) h) h)))))
  else
  R (.bool false) h) h))
  else
  R (.bool false) h) h)))))
  else
  R (.bool false) h) ∧
  (if (v_18 == v_17) = true then
  loadAggK (sizeOfT Try.prog T.api_Tag) h b_2 (fun (v_91 : Array Value) =>
  loadAggK (sizeOfT Try.prog T.api_Tag) h b_2 (fun (v_92 : Array Value) =>
  loadAggK (sizeOfT Try.prog T.api_Tag) h a_1 (fun (v_93 : Array Value) =>
  loadAggK (sizeOfT Try.prog T.api_Tag) h a_1 (fun (v_94 : Array Value) =>
  eqK Try.prog (binSem .eql T.api_Tag (.tmp 49) (.tmp 50) (.agg v_94) (.agg v_91)) (fun (v_95 : Bool) =>
  callK Try.prog .bool F.mac_Same #[(.agg v_92), (.agg v_93)] (fun (v_96 : Bool) (h : Heap) =>
  stillAggK (sizeOfT Try.prog T.api_Tag) h a_1 v_94 ∧
  if (v_96 == v_95) = true then
  loadAggK (sizeOfT Try.prog T.api_Tag) h a_1 (fun (v_97 : Array Value) =>
  loadAggK (sizeOfT Try.prog T.api_Tag) h c_5 (fun (v_98 : Array Value) =>
  callK Try.prog .bool F.mac_Same #[(.agg v_97), (.agg v_98)] (fun (v_99 : Bool) (h : Heap) =>
  if (v_99 == (turn5 == 0)) = true then
  loadAggK (sizeOfT Try.prog T.api_Tag) h c_5 (fun (v_100 : Array Value) =>
  loadAggK (sizeOfT Try.prog T.api_Tag) h c_5 (fun (v_101 : Array Value) =>
  loadAggK (sizeOfT Try.prog T.api_Tag) h t_12 (fun (v_102 : Array Value) =>
  eqK Try.prog (binSem .eql T.api_Tag (.tmp 69) (.tmp 70) (.agg v_101) (.agg v_102)) (fun (v_103 : Bool) =>
  newSlK h 1 #[(.slice rest3.a rest3.n rest3.c)] T.sl_uint8 (fun (v_104 : Sl) (h : Heap) =>
  callK Try.prog (.int .i64) F.mac_Check #[(.slice key2.a key2.n key2.c), (.agg v_100), (.slice v_104.a v_104.n v_104.c)] (fun (v_105 : Int) (h : Heap) =>
  stillAggK (sizeOfT Try.prog T.api_Tag) h t_12 v_102 ∧
  stillAggK (sizeOfT Try.prog T.api_Tag) h c_5 v_101 ∧
  if ((v_105 == 0) == v_103) = true then
  loadAggK (sizeOfT Try.prog T.api_Tag) h c_5 (fun (v_106 : Array Value) =>
  loadAggK (sizeOfT Try.prog T.api_Tag) h c_5 (fun (v_107 : Array Value) =>
  loadAggK (sizeOfT Try.prog T.api_Tag) h t_12 (fun (v_108 : Array Value) =>
  eqK Try.prog (binSem .neq T.api_Tag (.tmp 81) (.tmp 82) (.agg v_107) (.agg v_108)) (fun (v_109 : Bool) =>
  newSlK h 1 #[(.slice rest3.a rest3.n rest3.c)] T.sl_uint8 (fun (v_110 : Sl) (h : Heap) =>
  callK Try.prog (.int .i64) F.mac_Check #[(.slice key2.a key2.n key2.c), (.agg v_106), (.slice v_110.a v_110.n v_110.c)] (fun (v_111 : Int) (h : Heap) =>
  stillAggK (sizeOfT Try.prog T.api_Tag) h t_12 v_108 ∧
  stillAggK (sizeOfT Try.prog T.api_Tag) h c_5 v_107 ∧
  if ((v_111 == 7) == v_109) = true then
  loadAggK (sizeOfT Try.prog T.api_Tag) h t_12 (fun (v_112 : Array Value) =>
  newSlK h 1 #[(.slice rest3.a rest3.n rest3.c)] T.sl_uint8 (fun (v_113 : Sl) (h : Heap) =>
  callK Try.prog (.int .i64) F.mac_Check #[(.slice key2.a key2.n key2.c), (.agg v_112), (.slice v_113.a v_113.n v_113.c)] (fun (v_114 : Int) (h : Heap) =>
  R (.bool (v_114 == 0)) h) h))
  else
  R (.bool false) h) h)))))
  else
  R (.bool false) h) h)))))
  else
  R (.bool false) h) h))
  else
  R (.bool false) h) h)))))
  else
  R (.bool false) h))))))) h)))))))) h)))))) h)))) h))
def law03_MacSame.ann : Ann := (.seq .leaf (.seq (.seq .leaf (.cond (.seq .leaf .leaf) .leaf)) (.seq (.seq .leaf (.cond (.seq .leaf .leaf) .leaf)) (.seq .leaf (.seq .leaf (.seq .leaf (.seq .leaf (.seq (.any (.st 0 144115188075855812 (.st 1 144115188075855812 (.st 3 144115188075855840 (.st 4 144115188075855840 (.loc 5 (.last 2 (.loc 6 (.loc 7 (.altA 8 (.st 9 144115188075840512 (.st 11 144115188075847680 (.st 12 144115188075847680 (.loc 13 (.last 10 (.loc 14 (.loc 15 (.loc 16 (.locA 20 (.loc 21 (.st 17 144115188072185856 (.st 18 144115188072185856 (.last 19 (.loc 22 (.loc 23 (.loc 24 (.locA 25 (.loc 27 (.st 26 144115172506599424 (.st 31 144115179485921280 (.st 32 144115179485921280 (.loc 33 (.last 28 (.last 29 (.loc 30 (.loc 34 (.loc 35 (.loc 36 (.locA 37 (.loc 39 (.st 38 144051416401444864 (.st 43 144080003703767040 (.st 44 144080003703767040 (.loc 45 (.last 40 (.last 41 (.loc 42 (.loc 46 (.loc 47 (.loc 48 (.locA 49 (.loc 51 (.st 50 135107988821114880 (.last 52 (.last 53 (.loc 54 (.loc 55 (.loc 56 .done))))))) (.loc 50 (.loc 51 (.loc 52 (.loc 53 (.loc 54 (.loc 55 (.loc 56 .done))))))))))))))))))) (.loc 38 (.loc 39 (.loc 40 (.loc 41 (.loc 42 (.loc 43 (.loc 44 (.loc 45 (.loc 46 (.loc 47 (.loc 48 (.loc 49 (.loc 50 (.loc 51 (.loc 52 (.loc 53 (.loc 54 (.loc 55 (.loc 56 .done))))))))))))))))))))))))))))))) (.loc 26 (.loc 27 (.loc 28 (.loc 29 (.loc 30 (.loc 31 (.loc 32 (.loc 33 (.loc 34 (.loc 35 (.loc 36 (.loc 37 (.loc 38 (.loc 39 (.loc 40 (.loc 41 (.loc 42 (.loc 43 (.loc 44 (.loc 45 (.loc 46 (.loc 47 (.loc 48 (.loc 49 (.loc 50 (.loc 51 (.loc 52 (.loc 53 (.loc 54 (.loc 55 (.loc 56 .done))))))))))))))))))))))))))))))))))))))) (.loc 17 (.loc 18 (.loc 19 (.loc 21 (.loc 22 (.loc 23 (.loc 24 (.loc 25 (.loc 26 (.loc 27 (.loc 28 (.loc 29 (.loc 30 (.loc 31 (.loc 32 (.loc 33 (.loc 34 (.loc 35 (.loc 36 (.loc 37 (.loc 38 (.loc 39 (.loc 40 (.loc 41 (.loc 42 (.loc 43 (.loc 44 (.loc 45 (.loc 46 (.loc 47 (.loc 48 (.loc 49 (.loc 50 (.loc 51 (.loc 52 (.loc 53 (.loc 54 (.loc 55 (.loc 56 .done)))))))))))))))))))))))))))))))))))))))))))))))) (.loc 9 (.loc 10 (.loc 11 (.loc 12 (.loc 13 (.loc 14 (.loc 15 (.loc 16 (.loc 17 (.loc 18 (.loc 19 (.loc 20 (.loc 21 (.loc 22 (.loc 23 (.loc 24 (.loc 25 (.loc 26 (.loc 27 (.loc 28 (.loc 29 (.loc 30 (.loc 31 (.loc 32 (.loc 33 (.loc 34 (.loc 35 (.loc 36 (.loc 37 (.loc 38 (.loc 39 (.loc 40 (.loc 41 (.loc 42 (.loc 43 (.loc 44 (.loc 45 (.loc 46 (.loc 47 (.loc 48 (.loc 49 (.loc 50 (.loc 51 (.loc 52 (.loc 53 (.loc 54 (.loc 55 (.loc 56 .done)))))))))))))))))))))))))))))))))))))))))))))))) (.altA 9 (.st 8 144115188075840512 (.st 11 144115188075847680 (.st 12 144115188075847680 (.loc 13 (.last 10 (.loc 14 (.loc 15 (.loc 16 (.locA 20 (.loc 21 (.st 17 144115188072185856 (.st 18 144115188072185856 (.last 19 (.loc 22 (.loc 23 (.loc 24 (.locA 25 (.loc 27 (.st 26 144115172506599424 (.st 31 144115179485921280 (.st 32 144115179485921280 (.loc 33 (.last 28 (.last 29 (.loc 30 (.loc 34 (.loc 35 (.loc 36 (.locA 37 (.loc 39 (.st 38 144051416401444864 (.st 43 144080003703767040 (.st 44 144080003703767040 (.loc 45 (.last 40 (.last 41 (.loc 42 (.loc 46 (.loc 47 (.loc 48 (.locA 49 (.loc 51 (.st 50 135107988821114880 (.last 52 (.last 53 (.loc 54 (.loc 55 (.loc 56 .done))))))) (.loc 50 (.loc 51 (.loc 52 (.loc 53 (.loc 54 (.loc 55 (.loc 56 .done))))))))))))))))))) (.loc 38 (.loc 39 (.loc 40 (.loc 41 (.loc 42 (.loc 43 (.loc 44 (.loc 45 (.loc 46 (.loc 47 (.loc 48 (.loc 49 (.loc 50 (.loc 51 (.loc 52 (.loc 53 (.loc 54 (.loc 55 (.loc 56 .done))))))))))))))))))))))))))))))) (.loc 26 (.loc 27 (.loc 28 (.loc 29 (.loc 30 (.loc 31 (.loc 32 (.loc 33 (.loc 34 (.loc 35 (.loc 36 (.loc 37 (.loc 38 (.loc 39 (.loc 40 (.loc 41 (.loc 42 (.loc 43 (.loc 44 (.loc 45 (.loc 46 (.loc 47 (.loc 48 (.loc 49 (.loc 50 (.loc 51 (.loc 52 (.loc 53 (.loc 54 (.loc 55 (.loc 56 .done))))))))))))))))))))))))))))))))))))))) (.loc 17 (.loc 18 (.loc 19 (.loc 21 (.loc 22 (.loc 23 (.loc 24 (.loc 25 (.loc 26 (.loc 27 (.loc 28 (.loc 29 (.loc 30 (.loc 31 (.loc 32 (.loc 33 (.loc 34 (.loc 35 (.loc 36 (.loc 37 (.loc 38 (.loc 39 (.loc 40 (.loc 41 (.loc 42 (.loc 43 (.loc 44 (.loc 45 (.loc 46 (.loc 47 (.loc 48 (.loc 49 (.loc 50 (.loc 51 (.loc 52 (.loc 53 (.loc 54 (.loc 55 (.loc 56 .done)))))))))))))))))))))))))))))))))))))))))))))))) (.loc 8 (.loc 10 (.loc 11 (.loc 12 (.loc 13 (.loc 14 (.loc 15 (.loc 16 (.loc 17 (.loc 18 (.loc 19 (.loc 20 (.loc 21 (.loc 22 (.loc 23 (.loc 24 (.loc 25 (.loc 26 (.loc 27 (.loc 28 (.loc 29 (.loc 30 (.loc 31 (.loc 32 (.loc 33 (.loc 34 (.loc 35 (.loc 36 (.loc 37 (.loc 38 (.loc 39 (.loc 40 (.loc 41 (.loc 42 (.loc 43 (.loc 44 (.loc 45 (.loc 46 (.loc 47 (.loc 48 (.loc 49 (.loc 50 (.loc 51 (.loc 52 (.loc 53 (.loc 54 (.loc 55 (.loc 56 .done)))))))))))))))))))))))))))))))))))))))))))))))) (.altA 11 (.st 8 144115188075840512 (.st 9 144115188075840512 (.st 12 144115188075847680 (.loc 13 (.last 10 (.loc 14 (.loc 15 (.loc 16 (.locA 20 (.loc 21 (.st 17 144115188072185856 (.st 18 144115188072185856 (.last 19 (.loc 22 (.loc 23 (.loc 24 (.locA 25 (.loc 27 (.st 26 144115172506599424 (.st 31 144115179485921280 (.st 32 144115179485921280 (.loc 33 (.last 28 (.last 29 (.loc 30 (.loc 34 (.loc 35 (.loc 36 (.locA 37 (.loc 39 (.st 38 144051416401444864 (.st 43 144080003703767040 (.st 44 144080003703767040 (.loc 45 (.last 40 (.last 41 (.loc 42 (.loc 46 (.loc 47 (.loc 48 (.locA 49 (.loc 51 (.st 50 135107988821114880 (.last 52 (.last 53 (.loc 54 (.loc 55 (.loc 56 .done))))))) (.loc 50 (.loc 51 (.loc 52 (.loc 53 (.loc 54 (.loc 55 (.loc 56 .done))))))))))))))))))) (.loc 38 (.loc 39 (.loc 40 (.loc 41 (.loc 42 (.loc 43 (.loc 44 (.loc 45 (.loc 46 (.loc 47 (.loc 48 (.loc 49 (.loc 50 (.loc 51 (.loc 52 (.loc 53 (.loc 54 (.loc 55 (.loc 56 .done))))))))))))))))))))))))))))))) (.loc 26 (.loc 27 (.loc 28 (.loc 29 (.loc 30 (.loc 31 (.loc 32 (.loc 33 (.loc 34 (.loc 35 (.loc 36 (.loc 37 (.loc 38 (.loc 39 (.loc 40 (.loc 41 (.loc 42 (.loc 43 (.loc 44 (.loc 45 (.loc 46 (.loc 47 (.loc 48 (.loc 49 (.loc 50 (.loc 51 (.loc 52 (.loc 53 (.loc 54 (.loc 55 (.loc 56 .done))))))))))))))))))))))))))))))))))))))) (.loc 17 (.loc 18 (.loc 19 (.loc 21 (.loc 22 (.loc 23 (.loc 24 (.loc 25 (.loc 26 (.loc 27 (.loc 28 (.loc 29 (.loc 30 (.loc 31 (.loc 32 (.loc 33 (.loc 34 (.loc 35 (.loc 36 (.loc 37 (.loc 38 (.loc 39 (.loc 40 (.loc 41 (.loc 42 (.loc 43 (.loc 44 (.loc 45 (.loc 46 (.loc 47 (.loc 48 (.loc 49 (.loc 50 (.loc 51 (.loc 52 (.loc 53 (.loc 54 (.loc 55 (.loc 56 .done)))))))))))))))))))))))))))))))))))))))))))))))) (.loc 8 (.loc 9 (.loc 10 (.loc 12 (.loc 13 (.loc 14 (.loc 15 (.loc 16 (.loc 17 (.loc 18 (.loc 19 (.loc 20 (.loc 21 (.loc 22 (.loc 23 (.loc 24 (.loc 25 (.loc 26 (.loc 27 (.loc 28 (.loc 29 (.loc 30 (.loc 31 (.loc 32 (.loc 33 (.loc 34 (.loc 35 (.loc 36 (.loc 37 (.loc 38 (.loc 39 (.loc 40 (.loc 41 (.loc 42 (.loc 43 (.loc 44 (.loc 45 (.loc 46 (.loc 47 (.loc 48 (.loc 49 (.loc 50 (.loc 51 (.loc 52 (.loc 53 (.loc 54 (.loc 55 (.loc 56 .done)))))))))))))))))))))))))))))))))))))))))))))))) (.lastA 12 (.st 8 144115188075840512 (.st 9 144115188075840512 (.st 11 144115188075847680 (.loc 13 (.last 10 (.loc 14 (.loc 15 (.loc 16 (.locA 20 (.loc 21 (.st 17 144115188072185856 (.st 18 144115188072185856 (.last 19 (.loc 22 (.loc 23 (.loc 24 (.locA 25 (.loc 27 (.st 26 144115172506599424 (.st 31 144115179485921280 (.st 32 144115179485921280 (.loc 33 (.last 28 (.last 29 (.loc 30 (.loc 34 (.loc 35 (.loc 36 (.locA 37 (.loc 39 (.st 38 144051416401444864 (.st 43 144080003703767040 (.st 44 144080003703767040 (.loc 45 (.last 40 (.last 41 (.loc 42 (.loc 46 (.loc 47 (.loc 48 (.locA 49 (.loc 51 (.st 50 135107988821114880 (.last 52 (.last 53 (.loc 54 (.loc 55 (.loc 56 .done))))))) (.loc 50 (.loc 51 (.loc 52 (.loc 53 (.loc 54 (.loc 55 (.loc 56 .done))))))))))))))))))) (.loc 38 (.loc 39 (.loc 40 (.loc 41 (.loc 42 (.loc 43 (.loc 44 (.loc 45 (.loc 46 (.loc 47 (.loc 48 (.loc 49 (.loc 50 (.loc 51 (.loc 52 (.loc 53 (.loc 54 (.loc 55 (.loc 56 .done))))))))))))))))))))))))))))))) (.loc 26 (.loc 27 (.loc 28 (.loc 29 (.loc 30 (.loc 31 (.loc 32 (.loc 33 (.loc 34 (.loc 35 (.loc 36 (.loc 37 (.loc 38 (.loc 39 (.loc 40 (.loc 41 (.loc 42 (.loc 43 (.loc 44 (.loc 45 (.loc 46 (.loc 47 (.loc 48 (.loc 49 (.loc 50 (.loc 51 (.loc 52 (.loc 53 (.loc 54 (.loc 55 (.loc 56 .done))))))))))))))))))))))))))))))))))))))) (.loc 17 (.loc 18 (.loc 19 (.loc 21 (.loc 22 (.loc 23 (.loc 24 (.loc 25 (.loc 26 (.loc 27 (.loc 28 (.loc 29 (.loc 30 (.loc 31 (.loc 32 (.loc 33 (.loc 34 (.loc 35 (.loc 36 (.loc 37 (.loc 38 (.loc 39 (.loc 40 (.loc 41 (.loc 42 (.loc 43 (.loc 44 (.loc 45 (.loc 46 (.loc 47 (.loc 48 (.loc 49 (.loc 50 (.loc 51 (.loc 52 (.loc 53 (.loc 54 (.loc 55 (.loc 56 .done)))))))))))))))))))))))))))))))))))))))))))))))) (.loc 8 (.loc 9 (.loc 10 (.loc 11 (.loc 13 (.loc 14 (.loc 15 (.loc 16 (.loc 17 (.loc 18 (.loc 19 (.loc 20 (.loc 21 (.loc 22 (.loc 23 (.loc 24 (.loc 25 (.loc 26 (.loc 27 (.loc 28 (.loc 29 (.loc 30 (.loc 31 (.loc 32 (.loc 33 (.loc 34 (.loc 35 (.loc 36 (.loc 37 (.loc 38 (.loc 39 (.loc 40 (.loc 41 (.loc 42 (.loc 43 (.loc 44 (.loc 45 (.loc 46 (.loc 47 (.loc 48 (.loc 49 (.loc 50 (.loc 51 (.loc 52 (.loc 53 (.loc 54 (.loc 55 (.loc 56 .done))))))))))))))))))))))))))))))))))))))))))))))))))))))))))))) .leaf))))))))
theorem law03_MacSame.eq (a0 : Array Value) (b1 : Array Value) (key2 : Sl) (rest3 : Sl) (at4 : Int) (turn5 : Int) (R : Value → Heap → Prop) (h : Heap) : law03_MacSame.body a0 b1 key2 rest3 at4 turn5 R h = evFn Try.prog Try.f6 law03_MacSame.ann [(.agg a0), (.agg b1), (.slice key2.a key2.n key2.c), (.slice rest3.a rest3.n rest3.c), (.int .i64 at4), (.int .u8 turn5)] R h := by kernel_rfl
theorem law03_MacSame.calls {a0 : Array Value} {b1 : Array Value} {key2 : Sl} {rest3 : Sl} {at4 : Int} {turn5 : Int} {R : Value → Heap → Prop} {h : Heap} (H : law03_MacSame.body a0 b1 key2 rest3 at4 turn5 R h) : HC Try.prog F.law03_MacSame #[(.agg a0), (.agg b1), (.slice key2.a key2.n key2.c), (.slice rest3.a rest3.n rest3.c), (.int .i64 at4), (.int .u8 turn5)] R h :=
  evFn_sound mixed Try.func6 (by kernel_rfl) (law03_MacSame.eq a0 b1 key2 rest3 at4 turn5 R h ▸ H)

/-! zugzwang/zugzwanglaw03.MacEnds -/
def law03_MacEnds.body  (R : Value → Heap → Prop) (h : Heap) : Prop :=
  loopW (fun X_2 (s_1 : Sl × Int) (h : Heap) =>
  if (decide (s_1.2 < 131)) = true then
  joinW (fun (s_3 : Unit) (h : Heap) =>
  newSlK h 1 #[(.int .u8 (IntKind.u8.wrap (IntKind.i64.wrap ((IntKind.i64.wrap (s_1.2 * 5)) + 1))))] T.uint8 (fun (v_4 : Sl) (h : Heap) =>
  opK Try.prog .slice (Builtin.append_ #[T.sl_uint8, T.sl_uint8] T.sl_uint8 #[(.slice s_1.1.a s_1.1.n s_1.1.c), (.slice v_4.a v_4.n v_4.c)]) (fun (v_5 : Sl) (h : Heap) =>
  X_2 (v_5, IntKind.i64.wrap (s_1.2 + 1)) h) h))
  (fun J_6 =>
  if (decide (s_1.2 < 71)) = true then
  buildK Try.prog (Instr.build T.api_Tag #[]) (fun (v_7 : Array Value) =>
  callK Try.prog .bool F.law03_MacTells #[(.slice s_1.1.a s_1.1.n s_1.1.c), (.slice none 0 0), (.agg v_7)] (fun (v_8 : Bool) (h : Heap) =>
  if (!v_8) = true then
  R (.bool false) h
  else
  opK Try.prog .slice (Instr.makeSlice T.sl_uint8 (.int .i64 s_1.2) (.int .i64 s_1.2)) (fun (v_9 : Sl) (h : Heap) =>
  newSlK h 1 #[(.slice s_1.1.a s_1.1.n s_1.1.c)] T.sl_uint8 (fun (v_10 : Sl) (h : Heap) =>
  buildK Try.prog (Instr.build T.api_Tag #[(0, (.int .u8 1))]) (fun (v_11 : Array Value) =>
  callK Try.prog .bool F.law03_MacTells #[(.slice v_9.a v_9.n v_9.c), (.slice v_10.a v_10.n v_10.c), (.agg v_11)] (fun (v_12 : Bool) (h : Heap) =>
  if (!v_12) = true then
  R (.bool false) h
  else
  if (s_1.2 == 130) = true then
  newSlK h 1 #[(.int .u8 1)] T.uint8 (fun (v_13 : Sl) (h : Heap) =>
  newSlK h 1 #[(.int .u8 2)] T.uint8 (fun (v_14 : Sl) (h : Heap) =>
  newSlK h 3 #[(.slice v_13.a v_13.n v_13.c), (.slice none 0 0), (.slice v_14.a v_14.n v_14.c)] T.sl_uint8 (fun (v_15 : Sl) (h : Heap) =>
  buildK Try.prog (Instr.build T.api_Tag #[]) (fun (v_16 : Array Value) =>
  callK Try.prog .bool F.law03_MacTells #[(.slice s_1.1.a s_1.1.n s_1.1.c), (.slice v_15.a v_15.n v_15.c), (.agg v_16)] (fun (v_17 : Bool) (h : Heap) =>
  if (!v_17) = true then
  R (.bool false) h
  else
  J_6 () h) h))))
  else
  J_6 () h) h))) h) h)
  else
  if (s_1.2 == 130) = true then
  newSlK h 1 #[(.int .u8 1)] T.uint8 (fun (v_18 : Sl) (h : Heap) =>
  newSlK h 1 #[(.int .u8 2)] T.uint8 (fun (v_19 : Sl) (h : Heap) =>
  newSlK h 3 #[(.slice v_18.a v_18.n v_18.c), (.slice none 0 0), (.slice v_19.a v_19.n v_19.c)] T.sl_uint8 (fun (v_20 : Sl) (h : Heap) =>
  buildK Try.prog (Instr.build T.api_Tag #[]) (fun (v_21 : Array Value) =>
  callK Try.prog .bool F.law03_MacTells #[(.slice s_1.1.a s_1.1.n s_1.1.c), (.slice v_20.a v_20.n v_20.c), (.agg v_21)] (fun (v_22 : Bool) (h : Heap) =>
  if (!v_22) = true then
  R (.bool false) h
  else
  J_6 () h) h))))
  else
  J_6 () h)
  else
  sliceK s_1.1 none (some 9) none (sizeOfT Try.prog T.uint8) (fun (v_23 : Sl) =>
  newSlK h 1 #[(.int .u8 97)] T.uint8 (fun (v_24 : Sl) (h : Heap) =>
  opK Try.prog .slice (convert T.sl_uint8 T.sl_uint8 (.slice v_24.a v_24.n v_24.c)) (fun (v_25 : Sl) (h : Heap) =>
  newSlK h 1 #[(.slice v_25.a v_25.n v_25.c)] T.sl_uint8 (fun (v_26 : Sl) (h : Heap) =>
  callK Try.prog .agg F.mac_Of #[(.slice v_23.a v_23.n v_23.c), (.slice v_26.a v_26.n v_26.c)] (fun (v_27 : Array Value) (h : Heap) =>
  newK h (zerosOf Try.prog T.api_Tag) T.api_Tag (fun (t_28 : Option Addr) (h : Heap) =>
  storeAggK (sizeOfT Try.prog T.api_Tag) h t_28 v_27 (fun (h : Heap) =>
  loopW (fun X_30 (s_29 : Int) (h : Heap) =>
  if (decide (s_29 < 256)) = true then
  loadAggK (sizeOfT Try.prog T.api_Tag) h t_28 (fun (v_31 : Array Value) =>
  newK h (zerosOf Try.prog T.api_Tag) T.api_Tag (fun (u_32 : Option Addr) (h : Heap) =>
  storeAggK (sizeOfT Try.prog T.api_Tag) h u_32 v_31 (fun (h : Heap) =>
  divK 8
  (divK 8
  (idxArrK u_32 32 (IntKind.i64.wrap (Int.tdiv s_29 8)) (sizeOfT Try.prog T.uint8) (fun (a_33 : Addr) =>
  divK 8
  (shiftK (Int.tmod s_29 8)
  (loadK (.int .u8) h ((some a_33)) (fun (v_34 : Int) =>
  idxArrK u_32 32 (IntKind.i64.wrap (Int.tdiv s_29 8)) (sizeOfT Try.prog T.uint8) (fun (a_35 : Addr) =>
  storeK h ((some a_35)) (.int .u8 (IntKind.u8.wrap (BitVec.ofInt (IntKind.bits .u8) v_34 ^^^ BitVec.ofInt (IntKind.bits .u8) (IntKind.u8.wrap (1 * 2 ^ min (Int.toNat (Int.tmod s_29 8)) (IntKind.bits .u8)))).toNat)) (fun (h : Heap) =>
  loadAggK (sizeOfT Try.prog T.api_Tag) h t_28 (fun (v_36 : Array Value) =>
  loadAggK (sizeOfT Try.prog T.api_Tag) h u_32 (fun (v_37 : Array Value) =>
  callK Try.prog .bool F.mac_Same #[(.agg v_36), (.agg v_37)] (fun (v_38 : Bool) (h : Heap) =>
  ((if v_38 = true then
  R (.bool false) h
  else
  loadAggK (sizeOfT Try.prog T.api_Tag) h u_32 (fun (v_39 : Array Value) =>
  loadAggK (sizeOfT Try.prog T.api_Tag) h t_28 (fun (v_40 : Array Value) =>
  callK Try.prog .bool F.mac_Same #[(.agg v_39), (.agg v_40)] (fun (v_41 : Bool) (h : Heap) =>
  if v_41 = true then
  R (.bool false) h
  else
  sliceK s_1.1 none (some 9) none (sizeOfT Try.prog T.uint8) (fun (v_42 : Sl) =>
  loadAggK (sizeOfT Try.prog T.api_Tag) h u_32 (fun (v_43 : Array Value) =>
  newSlK h 1 #[(.int .u8 97)] T.uint8 (fun (v_44 : Sl) (h : Heap) =>
  opK Try.prog .slice (convert T.sl_uint8 T.sl_uint8 (.slice v_44.a v_44.n v_44.c)) (fun (v_45 : Sl) (h : Heap) =>
  newSlK h 1 #[(.slice v_45.a v_45.n v_45.c)] T.sl_uint8 (fun (v_46 : Sl) (h : Heap) =>
  callK Try.prog (.int .i64) F.mac_Check #[(.slice v_42.a v_42.n v_42.c), (.agg v_43), (.slice v_46.a v_46.n v_46.c)] (fun (v_47 : Int) (h : Heap) =>
  if (v_47 != 7) = true then
  R (.bool false) h
  else
  X_30 (IntKind.i64.wrap (s_29 + 1)) h) h)) h)))) h))) ∧
  (if v_38 = true then
  R (.bool false) h
  else
  loadAggK (sizeOfT Try.prog T.api_Tag) h t_28 (fun (v_48 : Array Value) =>
  loadAggK (sizeOfT Try.prog T.api_Tag) h u_32 (fun (v_49 : Array Value) =>
  callK Try.prog .bool F.mac_Same #[(.agg v_49), (.agg v_48)] (fun (v_50 : Bool) (h : Heap) =>
  if v_50 = true then
  R (.bool false) h
  else
  sliceK s_1.1 none (some 9) none (sizeOfT Try.prog T.uint8) (fun (v_51 : Sl) =>
  loadAggK (sizeOfT Try.prog T.api_Tag) h u_32 (fun (v_52 : Array Value) =>
  newSlK h 1 #[(.int .u8 97)] T.uint8 (fun (v_53 : Sl) (h : Heap) =>
  opK Try.prog .slice (convert T.sl_uint8 T.sl_uint8 (.slice v_53.a v_53.n v_53.c)) (fun (v_54 : Sl) (h : Heap) =>
  newSlK h 1 #[(.slice v_54.a v_54.n v_54.c)] T.sl_uint8 (fun (v_55 : Sl) (h : Heap) =>
  callK Try.prog (.int .i64) F.mac_Check #[(.slice v_51.a v_51.n v_51.c), (.agg v_52), (.slice v_55.a v_55.n v_55.c)] (fun (v_56 : Int) (h : Heap) =>
  if (v_56 != 7) = true then
  R (.bool false) h
  else
  X_30 (IntKind.i64.wrap (s_29 + 1)) h) h)) h)))) h))))) h)))))))))))))
  else
  loadAggK (sizeOfT Try.prog T.api_Tag) h t_28 (fun (v_57 : Array Value) =>
  loadAggK (sizeOfT Try.prog T.api_Tag) h t_28 (fun (v_58 : Array Value) =>
  callK Try.prog .bool F.mac_Same #[(.agg v_57), (.agg v_58)] (fun (v_59 : Bool) (h : Heap) =>
  if v_59 = true then
  sliceK s_1.1 none (some 9) none (sizeOfT Try.prog T.uint8) (fun (v_60 : Sl) =>
  loadAggK (sizeOfT Try.prog T.api_Tag) h t_28 (fun (v_61 : Array Value) =>
  newSlK h 1 #[(.int .u8 97)] T.uint8 (fun (v_62 : Sl) (h : Heap) =>
  opK Try.prog .slice (convert T.sl_uint8 T.sl_uint8 (.slice v_62.a v_62.n v_62.c)) (fun (v_63 : Sl) (h : Heap) =>
  newSlK h 1 #[(.slice v_63.a v_63.n v_63.c)] T.sl_uint8 (fun (v_64 : Sl) (h : Heap) =>
  callK Try.prog (.int .i64) F.mac_Check #[(.slice v_60.a v_60.n v_60.c), (.agg v_61), (.slice v_64.a v_64.n v_64.c)] (fun (v_65 : Int) (h : Heap) =>
  if (v_65 == 0) = true then
  callK Try.prog .bool F.law03_awake #[] (fun (v_66 : Bool) (h : Heap) =>
  R (.bool v_66) h) h
  else
  R (.bool false) h) h)) h)))
  else
  R (.bool false) h) h))) 0 h))) h)) h))) (⟨none, 0, 0⟩, 0) h
def law03_MacEnds.ann : Ann := (.seq .leaf (.seq .leaf (.seq (.seq .leaf (.block (.loop [(1, .slice), (2, (.int .i64))] (.seq (.seq .leaf (.cond .leaf .leaf)) (.seq (.block (.join [] (.seq .leaf (.cond (.seq .leaf .leaf) .leaf)) .leaf)) .leaf))))) (.seq .leaf (.seq (.seq .leaf (.block (.loop [(4, (.int .i64))] (.seq (.seq .leaf (.cond .leaf .leaf)) (.seq (.block (.seq .leaf (.seq (.any (.loc 0 (.loc 1 (.loc 2 (.loc 3 (.loc 4 (.loc 6 (.loc 7 (.loc 8 (.st 5 3584 (.loc 9 (.loc 10 (.last 11 .done))))))))))))) (.seq (.any (.st 0 262140 (.st 1 262140 (.last 2 (.loc 3 (.altA 4 (.loc 5 (.loc 6 (.loc 7 (.loc 8 (.loc 9 (.loc 10 (.loc 11 (.loc 12 (.loc 13 (.loc 14 (.loc 15 (.loc 16 (.loc 17 .done))))))))))))) (.st 5 262080 (.last 6 (.loc 7 (.loc 8 (.locA 9 (.loc 10 (.loc 11 (.loc 12 (.loc 13 (.loc 14 (.loc 15 (.loc 16 (.loc 17 .done)))))))) (.loc 10 (.st 11 229376 (.last 12 (.last 13 (.last 14 (.last 15 (.loc 16 (.loc 17 .done))))))))))))) (.lastA 5 (.loc 4 (.loc 6 (.loc 7 (.loc 8 (.loc 9 (.loc 10 (.loc 11 (.loc 12 (.loc 13 (.loc 14 (.loc 15 (.loc 16 (.loc 17 .done))))))))))))) (.st 4 262080 (.last 6 (.loc 7 (.loc 8 (.locA 9 (.loc 10 (.loc 11 (.loc 12 (.loc 13 (.loc 14 (.loc 15 (.loc 16 (.loc 17 .done)))))))) (.loc 10 (.st 11 229376 (.last 12 (.last 13 (.last 14 (.last 15 (.loc 16 (.loc 17 .done)))))))))))))))))))) (.cond (.seq .leaf .leaf) .leaf))))) .leaf))))) (.seq (.any (.st 0 131068 (.st 1 131068 (.last 2 (.loc 3 (.locA 4 (.loc 5 (.st 6 130048 (.last 7 (.last 8 (.last 9 (.last 10 (.loc 11 (.loc 12 (.loc 13 (.lastA 14 (.loc 15 (.loc 16 .done)) (.loc 15 (.loc 16 .done)))))))))))) (.loc 5 (.loc 6 (.loc 7 (.loc 8 (.loc 9 (.loc 10 (.loc 11 (.loc 12 (.loc 13 (.loc 14 (.loc 15 (.loc 16 .done)))))))))))))))))) .leaf))))))
theorem law03_MacEnds.eq  (R : Value → Heap → Prop) (h : Heap) : law03_MacEnds.body  R h = evFn Try.prog Try.f4 law03_MacEnds.ann [] R h := by kernel_rfl
theorem law03_MacEnds.calls  {R : Value → Heap → Prop} {h : Heap} (H : law03_MacEnds.body  R h) : HC Try.prog F.law03_MacEnds #[] R h :=
  evFn_sound mixed Try.func4 (by kernel_rfl) (law03_MacEnds.eq  R h ▸ H)

/-! zugzwang/zugzwanglaw03.MacParts -/
def law03_MacParts.body (key0 : Sl) (b1 : Sl) (at2 : Int) (noughts3 : Int) (R : Value → Heap → Prop) (h : Heap) : Prop :=
  callK Try.prog .bool F.law03_awake #[] (fun (v_1 : Bool) (h : Heap) =>
  if (!v_1) = true then
  R (.bool false) h
  else
  if (decide ((IntKind.i64.wrap (((key0.n : Int)) + ((b1.n : Int)))) > 700)) = true then
  R (.bool true) h
  else
  newSlK h 1 #[(.slice b1.a b1.n b1.c)] T.sl_uint8 (fun (v_2 : Sl) (h : Heap) =>
  callK Try.prog .agg F.mac_Of #[(.slice key0.a key0.n key0.c), (.slice v_2.a v_2.n v_2.c)] (fun (v_3 : Array Value) (h : Heap) =>
  newK h (zerosOf Try.prog T.api_Tag) T.api_Tag (fun (t_4 : Option Addr) (h : Heap) =>
  storeAggK (sizeOfT Try.prog T.api_Tag) h t_4 v_3 (fun (h : Heap) =>
  callK Try.prog (.int .i64) F.kit_Pick #[(.int .i64 at2), (.int .i64 (IntKind.i64.wrap (((b1.n : Int)) + 1)))] (fun (v_5 : Int) (h : Heap) =>
  sliceK b1 none (some v_5) none (sizeOfT Try.prog T.uint8) (fun (v_6 : Sl) =>
  sliceK b1 (some v_5) none none (sizeOfT Try.prog T.uint8) (fun (v_7 : Sl) =>
  loadAggK (sizeOfT Try.prog T.api_Tag) h t_4 (fun (v_8 : Array Value) =>
  newSlK h 3 #[(.slice v_6.a v_6.n v_6.c), (.slice none 0 0), (.slice v_7.a v_7.n v_7.c)] T.sl_uint8 (fun (v_9 : Sl) (h : Heap) =>
  callK Try.prog .agg F.mac_Of #[(.slice key0.a key0.n key0.c), (.slice v_9.a v_9.n v_9.c)] (fun (v_10 : Array Value) (h : Heap) =>
  stillAggK (sizeOfT Try.prog T.api_Tag) h t_4 v_8 ∧
  eqK Try.prog (binSem .neq T.api_Tag (.tmp 39) (.tmp 40) (.agg v_10) (.agg v_8)) (fun (v_11 : Bool) =>
  if v_11 = true then
  R (.bool false) h
  else
  sliceK b1 none (some v_5) none (sizeOfT Try.prog T.uint8) (fun (v_12 : Sl) =>
  sliceK b1 (some v_5) none none (sizeOfT Try.prog T.uint8) (fun (v_13 : Sl) =>
  loadAggK (sizeOfT Try.prog T.api_Tag) h t_4 (fun (v_14 : Array Value) =>
  newSlK h 2 #[(.slice v_12.a v_12.n v_12.c), (.slice v_13.a v_13.n v_13.c)] T.sl_uint8 (fun (v_15 : Sl) (h : Heap) =>
  callK Try.prog (.int .i64) F.mac_Check #[(.slice key0.a key0.n key0.c), (.agg v_14), (.slice v_15.a v_15.n v_15.c)] (fun (v_16 : Int) (h : Heap) =>
  if (v_16 != 0) = true then
  R (.bool false) h
  else
  if (decide (((key0.n : Int)) > 64)) = true then
  newSlK h 1 #[(.slice key0.a key0.n key0.c)] T.sl_uint8 (fun (v_17 : Sl) (h : Heap) =>
  callK Try.prog .agg F.digest_Of #[(.slice v_17.a v_17.n v_17.c)] (fun (v_18 : Array Value) (h : Heap) =>
  newK h (zerosOf Try.prog T.api_Tag) T.api_Tag (fun (own_19 : Option Addr) (h : Heap) =>
  storeAggK (sizeOfT Try.prog T.api_Tag) h own_19 v_18 (fun (h : Heap) =>
  sliceArrK own_19 32 none none none (sizeOfT Try.prog T.uint8) (fun (v_20 : Sl) =>
  loadAggK (sizeOfT Try.prog T.api_Tag) h t_4 (fun (v_21 : Array Value) =>
  newSlK h 1 #[(.slice b1.a b1.n b1.c)] T.sl_uint8 (fun (v_22 : Sl) (h : Heap) =>
  callK Try.prog .agg F.mac_Of #[(.slice v_20.a v_20.n v_20.c), (.slice v_22.a v_22.n v_22.c)] (fun (v_23 : Array Value) (h : Heap) =>
  stillAggK (sizeOfT Try.prog T.api_Tag) h t_4 v_21 ∧
  eqK Try.prog (binSem .eql T.api_Tag (.tmp 64) (.tmp 65) (.agg v_23) (.agg v_21)) (fun (v_24 : Bool) =>
  R (.bool v_24) h)) h)))))) h)
  else
  newSlK h 0 #[] T.uint8 (fun (v_25 : Sl) (h : Heap) =>
  opK Try.prog .slice (Builtin.append_ #[T.sl_uint8, T.sl_uint8] T.sl_uint8 #[(.slice v_25.a v_25.n v_25.c), (.slice key0.a key0.n key0.c)]) (fun (v_26 : Sl) (h : Heap) =>
  callK Try.prog (.int .i64) F.kit_Pick #[(.int .i64 noughts3), (.int .i64 (IntKind.i64.wrap (65 - ((key0.n : Int)))))] (fun (v_27 : Int) (h : Heap) =>
  loopW (fun X_29 (s_28 : Sl × Int) (h : Heap) =>
  if (decide (s_28.2 > 0)) = true then
  newSlK h 1 #[(.int .u8 0)] T.uint8 (fun (v_30 : Sl) (h : Heap) =>
  opK Try.prog .slice (Builtin.append_ #[T.sl_uint8, T.sl_uint8] T.sl_uint8 #[(.slice s_28.1.a s_28.1.n s_28.1.c), (.slice v_30.a v_30.n v_30.c)]) (fun (v_31 : Sl) (h : Heap) =>
  X_29 (v_31, IntKind.i64.wrap (s_28.2 - 1)) h) h)
  else
  loadAggK (sizeOfT Try.prog T.api_Tag) h t_4 (fun (v_32 : Array Value) =>
  newSlK h 1 #[(.slice b1.a b1.n b1.c)] T.sl_uint8 (fun (v_33 : Sl) (h : Heap) =>
  callK Try.prog .agg F.mac_Of #[(.slice s_28.1.a s_28.1.n s_28.1.c), (.slice v_33.a v_33.n v_33.c)] (fun (v_34 : Array Value) (h : Heap) =>
  stillAggK (sizeOfT Try.prog T.api_Tag) h t_4 v_32 ∧
  eqK Try.prog (binSem .eql T.api_Tag (.tmp 85) (.tmp 86) (.agg v_34) (.agg v_32)) (fun (v_35 : Bool) =>
  R (.bool v_35) h)) h))) (v_26, v_27) h) h) h)) h)))))) h))))) h))) h)) h
def law03_MacParts.ann : Ann := (.seq .leaf (.seq (.seq .leaf (.cond (.seq .leaf .leaf) .leaf)) (.seq (.seq .leaf (.cond (.seq .leaf .leaf) .leaf)) (.seq .leaf (.seq .leaf (.seq (.seq (.any (.loc 0 (.loc 1 (.loc 2 (.loc 3 (.loc 4 (.loc 5 (.loc 6 (.st 9 16776192 (.last 7 (.last 8 (.loc 10 (.loc 11 (.locA 12 (.loc 13 (.loc 14 (.loc 15 (.loc 16 (.loc 17 (.loc 18 (.loc 19 (.loc 20 (.loc 21 (.loc 22 (.loc 23 .done))))))))))) (.loc 14 (.loc 15 (.loc 16 (.loc 17 (.loc 18 (.loc 19 (.st 13 14680064 (.last 20 (.last 21 (.loc 22 (.loc 23 .done))))))))))))))))))))))))) (.cond (.seq .leaf .leaf) .leaf)) (.seq (.seq .leaf (.cond (.seq .leaf (.seq (.any (.loc 0 (.loc 1 (.st 4 96 (.last 2 (.last 3 (.loc 5 (.loc 6 .done)))))))) .leaf)) .leaf)) (.seq .leaf (.seq (.seq .leaf (.block (.loop [(12, .slice), (13, (.int .i64))] (.seq (.seq .leaf (.cond .leaf .leaf)) (.seq (.block .leaf) .leaf))))) (.seq (.any (.loc 0 (.loc 1 (.st 4 96 (.last 2 (.last 3 (.loc 5 (.loc 6 .done)))))))) .leaf))))))))))
theorem law03_MacParts.eq (key0 : Sl) (b1 : Sl) (at2 : Int) (noughts3 : Int) (R : Value → Heap → Prop) (h : Heap) : law03_MacParts.body key0 b1 at2 noughts3 R h = evFn Try.prog Try.f5 law03_MacParts.ann [(.slice key0.a key0.n key0.c), (.slice b1.a b1.n b1.c), (.int .i64 at2), (.int .i64 noughts3)] R h := by kernel_rfl
theorem law03_MacParts.calls {key0 : Sl} {b1 : Sl} {at2 : Int} {noughts3 : Int} {R : Value → Heap → Prop} {h : Heap} (H : law03_MacParts.body key0 b1 at2 noughts3 R h) : HC Try.prog F.law03_MacParts #[(.slice key0.a key0.n key0.c), (.slice b1.a b1.n b1.c), (.int .i64 at2), (.int .i64 noughts3)] R h :=
  evFn_sound mixed Try.func5 (by kernel_rfl) (law03_MacParts.eq key0 b1 at2 noughts3 R h ▸ H)

end Go.Proofs.Ytcbpajedibamoaa
