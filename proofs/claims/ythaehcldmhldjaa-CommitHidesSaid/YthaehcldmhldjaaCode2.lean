import Derived.Test.YthaehcldmhldjaaSig
set_option linter.unusedVariables false
set_option maxRecDepth 100000
namespace Go.Proofs.Ythaehcldmhldjaa
open Go.Ev
/-! zugzwang/bits.Sum -/
def bits_Sum.body (words0 : Sl) (R : Value → Heap → Prop) (h : Heap) : Prop :=
  loopW (fun X_2 (s_1 : Int × Int) (h : Heap) =>
  if (decide (s_1.2 < ((words0.n : Int)))) = true then
  idxK words0 s_1.2 (sizeOfT Try.prog T.uint32) (fun (a_3 : Addr) =>
  loadK (.int .u32) h ((some a_3)) (fun (v_4 : Int) =>
  X_2 (IntKind.u32.wrap (s_1.1 + v_4), IntKind.i64.wrap (s_1.2 + 1)) h))
  else
  R (.int .u32 s_1.1) h) (0, 0) h
def bits_Sum.ann : Ann := (.seq .leaf (.seq (.seq .leaf (.block (.loop [(2, (.int .u32)), (7, (.int .i64))] (.seq .leaf (.seq (.cond .leaf .leaf) (.seq (.block (.seq .leaf .leaf)) .leaf)))))) (.seq .leaf .leaf)))
theorem bits_Sum.eq (words0 : Sl) (R : Value → Heap → Prop) (h : Heap) : bits_Sum.body words0 R h = evFn Try.prog Try.f57 bits_Sum.ann [(.slice words0.a words0.n words0.c)] R h := by kernel_rfl
theorem bits_Sum.calls {words0 : Sl} {R : Value → Heap → Prop} {h : Heap} (H : bits_Sum.body words0 R h) : HC Try.prog F.bits_Sum #[(.slice words0.a words0.n words0.c)] R h :=
  evFn_sound mixed Try.func57 (by kernel_rfl) (bits_Sum.eq words0 R h ▸ H)

/-! slices.Clone[[]byte,byte] -/
def slices_Clone_byte_byte.body (s0 : Sl) (R : Value → Heap → Prop) (h : Heap) : Prop :=
  if s0.a.isNone = true then
  R (.slice none 0 0) h
  else
  newSlK h 0 #[] T.uint8 (fun (v_1 : Sl) (h : Heap) =>
  opK Try.prog .slice (Builtin.append_ #[T.sl_uint8, T.sl_uint8] T.sl_uint8 #[(.slice v_1.a v_1.n v_1.c), (.slice s0.a s0.n s0.c)]) (fun (v_2 : Sl) (h : Heap) =>
  R (.slice v_2.a v_2.n v_2.c) h) h)
def slices_Clone_byte_byte.ann : Ann := (.seq .leaf (.seq (.seq .leaf (.cond (.seq .leaf .leaf) .leaf)) (.seq .leaf .leaf)))
theorem slices_Clone_byte_byte.eq (s0 : Sl) (R : Value → Heap → Prop) (h : Heap) : slices_Clone_byte_byte.body s0 R h = evFn Try.prog Try.f14 slices_Clone_byte_byte.ann [(.slice s0.a s0.n s0.c)] R h := by kernel_rfl
theorem slices_Clone_byte_byte.calls {s0 : Sl} {R : Value → Heap → Prop} {h : Heap} (H : slices_Clone_byte_byte.body s0 R h) : HC Try.prog F.slices_Clone_byte_byte #[(.slice s0.a s0.n s0.c)] R h :=
  evFn_sound mixed Try.func14 (by kernel_rfl) (slices_Clone_byte_byte.eq s0 R h ▸ H)

/-! zugzwang/bits.Choose -/
def bits_Choose.body (x0 : Int) (a1 : Int) (b2 : Int) (R : Value → Heap → Prop) (h : Heap) : Prop :=
  R (.int .u32 (IntKind.u32.wrap (BitVec.ofInt (IntKind.bits .u32) b2 ^^^ BitVec.ofInt (IntKind.bits .u32) (IntKind.u32.wrap (BitVec.ofInt (IntKind.bits .u32) x0 &&& BitVec.ofInt (IntKind.bits .u32) (IntKind.u32.wrap (BitVec.ofInt (IntKind.bits .u32) a1 ^^^ BitVec.ofInt (IntKind.bits .u32) b2).toNat)).toNat)).toNat)) h
def bits_Choose.ann : Ann := (.seq .leaf (.seq .leaf .leaf))
theorem bits_Choose.eq (x0 : Int) (a1 : Int) (b2 : Int) (R : Value → Heap → Prop) (h : Heap) : bits_Choose.body x0 a1 b2 R h = evFn Try.prog Try.f64 bits_Choose.ann [(.int .u32 x0), (.int .u32 a1), (.int .u32 b2)] R h := by kernel_rfl
theorem bits_Choose.calls {x0 : Int} {a1 : Int} {b2 : Int} {R : Value → Heap → Prop} {h : Heap} (H : bits_Choose.body x0 a1 b2 R h) : HC Try.prog F.bits_Choose #[(.int .u32 x0), (.int .u32 a1), (.int .u32 b2)] R h :=
  evFn_sound mixed Try.func64 (by kernel_rfl) (bits_Choose.eq x0 a1 b2 R h ▸ H)

/-! (*zugzwang/codec.Writer).Tag -/
def codec_Writer_Tag.body (w0 : Option Addr) (l1 : Sl) (R : Value → Heap → Prop) (h : Heap) : Prop :=
  buildK Try.prog (Instr.build T.codec_ruleaapi_Tag #[(1, ((Value.func (.func F.codec_Writer_Tag_1) #[] #[])))]) (fun (v_1 : Array Value) =>
  callK Try.prog (.int .i64) F.codec_put_api_Tag #[(.pointer w0), (.agg v_1), (.slice l1.a l1.n l1.c)] (fun (v_2 : Int) (h : Heap) =>
  R (.int .i64 v_2) h) h)
def codec_Writer_Tag.ann : Ann := (.seq .leaf (.seq .leaf .leaf))
theorem codec_Writer_Tag.eq (w0 : Option Addr) (l1 : Sl) (R : Value → Heap → Prop) (h : Heap) : codec_Writer_Tag.body w0 l1 R h = evFn Try.prog Try.f34 codec_Writer_Tag.ann [(.pointer w0), (.slice l1.a l1.n l1.c)] R h := by kernel_rfl
theorem codec_Writer_Tag.calls {w0 : Option Addr} {l1 : Sl} {R : Value → Heap → Prop} {h : Heap} (H : codec_Writer_Tag.body w0 l1 R h) : HC Try.prog F.codec_Writer_Tag #[(.pointer w0), (.slice l1.a l1.n l1.c)] R h :=
  evFn_sound mixed Try.func34 (by kernel_rfl) (codec_Writer_Tag.eq w0 l1 R h ▸ H)

/-! (*zugzwang/codec.Writer).Run -/
def codec_Writer_Run.body (w0 : Option Addr) (l1 : Sl) (R : Value → Heap → Prop) (h : Heap) : Prop :=
  buildK Try.prog (Instr.build T.codec_ruleasl_byte #[(1, ((Value.func (.func F.codec_Writer_Run_1) #[] #[])))]) (fun (v_1 : Array Value) =>
  callK Try.prog (.int .i64) F.codec_put_byte #[(.pointer w0), (.agg v_1), (.slice l1.a l1.n l1.c)] (fun (v_2 : Int) (h : Heap) =>
  R (.int .i64 v_2) h) h)
def codec_Writer_Run.ann : Ann := (.seq .leaf (.seq .leaf .leaf))
theorem codec_Writer_Run.eq (w0 : Option Addr) (l1 : Sl) (R : Value → Heap → Prop) (h : Heap) : codec_Writer_Run.body w0 l1 R h = evFn Try.prog Try.f33 codec_Writer_Run.ann [(.pointer w0), (.slice l1.a l1.n l1.c)] R h := by kernel_rfl
theorem codec_Writer_Run.calls {w0 : Option Addr} {l1 : Sl} {R : Value → Heap → Prop} {h : Heap} (H : codec_Writer_Run.body w0 l1 R h) : HC Try.prog F.codec_Writer_Run #[(.pointer w0), (.slice l1.a l1.n l1.c)] R h :=
  evFn_sound mixed Try.func33 (by kernel_rfl) (codec_Writer_Run.eq w0 l1 R h ▸ H)

/-! (*zugzwang/codec.Writer).Run$1 -/
def codec_Writer_Run_1.body (b0 : Sl) (R : Value → Heap → Prop) (h : Heap) : Prop :=
  callK Try.prog .slice F.codec_bytes4 #[(.int .i64 ((b0.n : Int)))] (fun (v_1 : Sl) (h : Heap) =>
  newSlK h 2 #[(.slice v_1.a v_1.n v_1.c), (.slice b0.a b0.n b0.c)] T.sl_uint8 (fun (v_2 : Sl) (h : Heap) =>
  callK Try.prog .slice F.slices_Concat_byte_byte #[(.slice v_2.a v_2.n v_2.c)] (fun (v_3 : Sl) (h : Heap) =>
  R (.slice v_3.a v_3.n v_3.c) h) h)) h
def codec_Writer_Run_1.ann : Ann := (.seq .leaf (.seq .leaf .leaf))
theorem codec_Writer_Run_1.eq (b0 : Sl) (R : Value → Heap → Prop) (h : Heap) : codec_Writer_Run_1.body b0 R h = evFn Try.prog Try.f47 codec_Writer_Run_1.ann [(.slice b0.a b0.n b0.c)] R h := by kernel_rfl
theorem codec_Writer_Run_1.calls {b0 : Sl} {R : Value → Heap → Prop} {h : Heap} (H : codec_Writer_Run_1.body b0 R h) : HC Try.prog F.codec_Writer_Run_1 #[(.slice b0.a b0.n b0.c)] R h :=
  evFn_sound mixed Try.func47 (by kernel_rfl) (codec_Writer_Run_1.eq b0 R h ▸ H)

/-! zugzwang/tags.Mark -/
def tags_Mark.body (b0 : Sl) (R : Value → Heap → Prop) (h : Heap) : Prop :=
  newSlK h 8 #[(.int .u8 122), (.int .u8 117), (.int .u8 103), (.int .u8 122), (.int .u8 119), (.int .u8 97), (.int .u8 110), (.int .u8 103)] T.uint8 (fun (v_1 : Sl) (h : Heap) =>
  opK Try.prog .slice (convert T.sl_uint8 T.sl_uint8 (.slice v_1.a v_1.n v_1.c)) (fun (v_2 : Sl) (h : Heap) =>
  callK Try.prog .bool F.bytes_Contains #[(.slice b0.a b0.n b0.c), (.slice v_2.a v_2.n v_2.c)] (fun (v_3 : Bool) (h : Heap) =>
  R (.bool v_3) h) h) h)
def tags_Mark.ann : Ann := (.seq .leaf (.seq .leaf .leaf))
theorem tags_Mark.eq (b0 : Sl) (R : Value → Heap → Prop) (h : Heap) : tags_Mark.body b0 R h = evFn Try.prog Try.f10 tags_Mark.ann [(.slice b0.a b0.n b0.c)] R h := by kernel_rfl
theorem tags_Mark.calls {b0 : Sl} {R : Value → Heap → Prop} {h : Heap} (H : tags_Mark.body b0 R h) : HC Try.prog F.tags_Mark #[(.slice b0.a b0.n b0.c)] R h :=
  evFn_sound mixed Try.func10 (by kernel_rfl) (tags_Mark.eq b0 R h ▸ H)

/-! zugzwang/codec.bytes4 -/
def codec_bytes4.body (n0 : Int) (R : Value → Heap → Prop) (h : Heap) : Prop :=
  shiftK 24
  (shiftK 16
  (shiftK 8
  (newSlK h 4 #[(.int .u8 (IntKind.u8.wrap (Int.fdiv n0 (2 ^ min (Int.toNat 24) (IntKind.bits .i64))))), (.int .u8 (IntKind.u8.wrap (Int.fdiv n0 (2 ^ min (Int.toNat 16) (IntKind.bits .i64))))), (.int .u8 (IntKind.u8.wrap (Int.fdiv n0 (2 ^ min (Int.toNat 8) (IntKind.bits .i64))))), (.int .u8 (IntKind.u8.wrap n0))] T.uint8 (fun (v_1 : Sl) (h : Heap) =>
  R (.slice v_1.a v_1.n v_1.c) h))))
def codec_bytes4.ann : Ann := (.seq .leaf (.seq .leaf .leaf))
theorem codec_bytes4.eq (n0 : Int) (R : Value → Heap → Prop) (h : Heap) : codec_bytes4.body n0 R h = evFn Try.prog Try.f48 codec_bytes4.ann [(.int .i64 n0)] R h := by kernel_rfl
theorem codec_bytes4.calls {n0 : Int} {R : Value → Heap → Prop} {h : Heap} (H : codec_bytes4.body n0 R h) : HC Try.prog F.codec_bytes4 #[(.int .i64 n0)] R h :=
  evFn_sound mixed Try.func48 (by kernel_rfl) (codec_bytes4.eq n0 R h ▸ H)

/-! bytes.Contains -/
def bytes_Contains.body (b0 : Sl) (subslice1 : Sl) (R : Value → Heap → Prop) (h : Heap) : Prop :=
  callK Try.prog (.int .i64) F.bytes_Index #[(.slice b0.a b0.n b0.c), (.slice subslice1.a subslice1.n subslice1.c)] (fun (v_1 : Int) (h : Heap) =>
  R (.bool (v_1 != ((-1)))) h) h
def bytes_Contains.ann : Ann := (.seq .leaf (.seq .leaf .leaf))
theorem bytes_Contains.eq (b0 : Sl) (subslice1 : Sl) (R : Value → Heap → Prop) (h : Heap) : bytes_Contains.body b0 subslice1 R h = evFn Try.prog Try.f17 bytes_Contains.ann [(.slice b0.a b0.n b0.c), (.slice subslice1.a subslice1.n subslice1.c)] R h := by kernel_rfl
theorem bytes_Contains.calls {b0 : Sl} {subslice1 : Sl} {R : Value → Heap → Prop} {h : Heap} (H : bytes_Contains.body b0 subslice1 R h) : HC Try.prog F.bytes_Contains #[(.slice b0.a b0.n b0.c), (.slice subslice1.a subslice1.n subslice1.c)] R h :=
  evFn_sound mixed Try.func17 (by kernel_rfl) (bytes_Contains.eq b0 subslice1 R h ▸ H)

/-! bytes.Equal -/
def bytes_Equal.body (a0 : Sl) (b1 : Sl) (R : Value → Heap → Prop) (h : Heap) : Prop :=
  opK Try.prog .str (convert T.sl_uint8 T.string (.slice a0.a a0.n a0.c)) (fun (v_1 : ByteArray) (h : Heap) =>
  opK Try.prog .str (convert T.sl_uint8 T.string (.slice b1.a b1.n b1.c)) (fun (v_2 : ByteArray) (h : Heap) =>
  R (.bool (v_1.toList == v_2.toList)) h) h) h
def bytes_Equal.ann : Ann := (.seq .leaf (.seq .leaf .leaf))
theorem bytes_Equal.eq (a0 : Sl) (b1 : Sl) (R : Value → Heap → Prop) (h : Heap) : bytes_Equal.body a0 b1 R h = evFn Try.prog Try.f37 bytes_Equal.ann [(.slice a0.a a0.n a0.c), (.slice b1.a b1.n b1.c)] R h := by kernel_rfl
theorem bytes_Equal.calls {a0 : Sl} {b1 : Sl} {R : Value → Heap → Prop} {h : Heap} (H : bytes_Equal.body a0 b1 R h) : HC Try.prog F.bytes_Equal #[(.slice a0.a a0.n a0.c), (.slice b1.a b1.n b1.c)] R h :=
  evFn_sound mixed Try.func37 (by kernel_rfl) (bytes_Equal.eq a0 b1 R h ▸ H)

/-! (*zugzwang/tags.Maker).there -/
def tags_Maker_there.body (m0 : Option Addr) (R : Value → Heap → Prop) (h : Heap) : Prop :=
  if (!m0.isNone) = true then
  derefK m0 (fun (a_1 : Addr) =>
  fldK ((some a_1)) 0 (fun (a_2 : Addr) =>
  fldK ((some a_2)) 0 (fun (a_3 : Addr) =>
  loadK .map h ((some a_3)) (fun (v_4 : Option Nat) =>
  R (.bool (!v_4.isNone)) h))))
  else
  R (.bool false) h
def tags_Maker_there.ann : Ann := (.seq .leaf (.seq .leaf .leaf))
theorem tags_Maker_there.eq (m0 : Option Addr) (R : Value → Heap → Prop) (h : Heap) : tags_Maker_there.body m0 R h = evFn Try.prog Try.f18 tags_Maker_there.ann [(.pointer m0)] R h := by kernel_rfl
theorem tags_Maker_there.calls {m0 : Option Addr} {R : Value → Heap → Prop} {h : Heap} (H : tags_Maker_there.body m0 R h) : HC Try.prog F.tags_Maker_there #[(.pointer m0)] R h :=
  evFn_sound mixed Try.func18 (by kernel_rfl) (tags_Maker_there.eq m0 R h ▸ H)

/-! bytes.IndexByte -/
def bytes_IndexByte.body (b0 : Sl) (c1 : Int) (R : Value → Heap → Prop) (h : Heap) : Prop :=
  externK Try.prog (.int .i64) F.internal_bytealg_IndexByte #[(.slice b0.a b0.n b0.c), (.int .u8 c1)] (fun (v_1 : Int) (h : Heap) =>
  R (.int .i64 v_1) h) h
def bytes_IndexByte.ann : Ann := (.seq .leaf (.seq .leaf .leaf))
theorem bytes_IndexByte.eq (b0 : Sl) (c1 : Int) (R : Value → Heap → Prop) (h : Heap) : bytes_IndexByte.body b0 c1 R h = evFn Try.prog Try.f36 bytes_IndexByte.ann [(.slice b0.a b0.n b0.c), (.int .u8 c1)] R h := by kernel_rfl
theorem bytes_IndexByte.calls {b0 : Sl} {c1 : Int} {R : Value → Heap → Prop} {h : Heap} (H : bytes_IndexByte.body b0 c1 R h) : HC Try.prog F.bytes_IndexByte #[(.slice b0.a b0.n b0.c), (.int .u8 c1)] R h :=
  evFn_sound mixed Try.func36 (by kernel_rfl) (bytes_IndexByte.eq b0 c1 R h ▸ H)

/-! (*zugzwang/codec.Writer).Tag$1 -/
def codec_Writer_Tag_1.body (t0 : Array Value) (R : Value → Heap → Prop) (h : Heap) : Prop :=
  newK h t0 T.api_Tag (fun (t_1 : Option Addr) (h : Heap) =>
  sliceArrK t_1 32 none none none (sizeOfT Try.prog T.uint8) (fun (v_2 : Sl) =>
  R (.slice v_2.a v_2.n v_2.c) h))
def codec_Writer_Tag_1.ann : Ann := (.seq .leaf (.seq .leaf .leaf))
theorem codec_Writer_Tag_1.eq (t0 : Array Value) (R : Value → Heap → Prop) (h : Heap) : codec_Writer_Tag_1.body t0 R h = evFn Try.prog Try.f50 codec_Writer_Tag_1.ann [(.agg t0)] R h := by kernel_rfl
theorem codec_Writer_Tag_1.calls {t0 : Array Value} {R : Value → Heap → Prop} {h : Heap} (H : codec_Writer_Tag_1.body t0 R h) : HC Try.prog F.codec_Writer_Tag_1 #[(.agg t0)] R h :=
  evFn_sound mixed Try.func50 (by kernel_rfl) (codec_Writer_Tag_1.eq t0 R h ▸ H)

/-! zugzwang/bits.Turn -/
def bits_Turn.body (x0 : Int) (n1 : Int) (R : Value → Heap → Prop) (h : Heap) : Prop :=
  divK 32
  (callK Try.prog (.int .u32) F.math_bits_RotateLeft32 #[(.int .u32 x0), (.int .i64 (IntKind.i64.wrap (0 - (Int.tmod n1 32))))] (fun (v_1 : Int) (h : Heap) =>
  R (.int .u32 v_1) h) h)
def bits_Turn.ann : Ann := (.seq .leaf (.seq .leaf .leaf))
theorem bits_Turn.eq (x0 : Int) (n1 : Int) (R : Value → Heap → Prop) (h : Heap) : bits_Turn.body x0 n1 R h = evFn Try.prog Try.f63 bits_Turn.ann [(.int .u32 x0), (.int .i64 n1)] R h := by kernel_rfl
theorem bits_Turn.calls {x0 : Int} {n1 : Int} {R : Value → Heap → Prop} {h : Heap} (H : bits_Turn.body x0 n1 R h) : HC Try.prog F.bits_Turn #[(.int .u32 x0), (.int .i64 n1)] R h :=
  evFn_sound mixed Try.func63 (by kernel_rfl) (bits_Turn.eq x0 n1 R h ▸ H)

/-! (*zugzwang/codec.state).sound -/
def codec_state_sound.body (s0 : Option Addr) (R : Value → Heap → Prop) (h : Heap) : Prop :=
  derefK s0 (fun (a_1 : Addr) =>
  fldK ((some a_1)) 1 (fun (a_2 : Addr) =>
  loadK (.int .i64) h ((some a_2)) (fun (v_3 : Int) =>
  R (.bool (v_3 == 0)) h)))
def codec_state_sound.ann : Ann := (.seq .leaf (.seq .leaf .leaf))
theorem codec_state_sound.eq (s0 : Option Addr) (R : Value → Heap → Prop) (h : Heap) : codec_state_sound.body s0 R h = evFn Try.prog Try.f51 codec_state_sound.ann [(.pointer s0)] R h := by kernel_rfl
theorem codec_state_sound.calls {s0 : Option Addr} {R : Value → Heap → Prop} {h : Heap} (H : codec_state_sound.body s0 R h) : HC Try.prog F.codec_state_sound #[(.pointer s0)] R h :=
  evFn_sound mixed Try.func51 (by kernel_rfl) (codec_state_sound.eq s0 R h ▸ H)

/-! zugzwang/digest.New -/
def digest_New.body  (R : Value → Heap → Prop) (h : Heap) : Prop :=
  callK Try.prog .agg F.digest_begun #[] (fun (v_1 : Array Value) (h : Heap) =>
  buildK Try.prog (Instr.build T.digest_Hasher #[(0, (.agg v_1)), (3, (.bool true))]) (fun (v_2 : Array Value) =>
  newK h v_2 T.digest_Hasher (fun (v_3 : Option Addr) (h : Heap) =>
  R (.pointer v_3) h))) h
def digest_New.ann : Ann := (.seq .leaf (.seq .leaf .leaf))
theorem digest_New.eq  (R : Value → Heap → Prop) (h : Heap) : digest_New.body  R h = evFn Try.prog Try.f27 digest_New.ann [] R h := by kernel_rfl
theorem digest_New.calls  {R : Value → Heap → Prop} {h : Heap} (H : digest_New.body  R h) : HC Try.prog F.digest_New #[] R h :=
  evFn_sound mixed Try.func27 (by kernel_rfl) (digest_New.eq  R h ▸ H)

/-! internal/bytealg.Cutover -/
def internal_bytealg_Cutover.body (n0 : Int) (R : Value → Heap → Prop) (h : Heap) : Prop :=
  divK 8
  (R (.int .i64 (IntKind.i64.wrap (Int.tdiv (IntKind.i64.wrap (n0 + 16)) 8))) h)
def internal_bytealg_Cutover.ann : Ann := (.seq .leaf (.seq .leaf .leaf))
theorem internal_bytealg_Cutover.eq (n0 : Int) (R : Value → Heap → Prop) (h : Heap) : internal_bytealg_Cutover.body n0 R h = evFn Try.prog Try.f39 internal_bytealg_Cutover.ann [(.int .i64 n0)] R h := by kernel_rfl
theorem internal_bytealg_Cutover.calls {n0 : Int} {R : Value → Heap → Prop} {h : Heap} (H : internal_bytealg_Cutover.body n0 R h) : HC Try.prog F.internal_bytealg_Cutover #[(.int .i64 n0)] R h :=
  evFn_sound mixed Try.func39 (by kernel_rfl) (internal_bytealg_Cutover.eq n0 R h ▸ H)

/-! zugzwang/bits.Shift -/
def bits_Shift.body (x0 : Int) (n1 : Int) (R : Value → Heap → Prop) (h : Heap) : Prop :=
  shiftK (if n1 < 0 then 0 else n1)
  (R (.int .u32 (Int.fdiv x0 (2 ^ min (Int.toNat (if n1 < 0 then 0 else n1)) (IntKind.bits .u32)))) h)
def bits_Shift.ann : Ann := (.seq .leaf (.seq .leaf .leaf))
theorem bits_Shift.eq (x0 : Int) (n1 : Int) (R : Value → Heap → Prop) (h : Heap) : bits_Shift.body x0 n1 R h = evFn Try.prog Try.f56 bits_Shift.ann [(.int .u32 x0), (.int .i64 n1)] R h := by kernel_rfl
theorem bits_Shift.calls {x0 : Int} {n1 : Int} {R : Value → Heap → Prop} {h : Heap} (H : bits_Shift.body x0 n1 R h) : HC Try.prog F.bits_Shift #[(.int .u32 x0), (.int .i64 n1)] R h :=
  evFn_sound mixed Try.func56 (by kernel_rfl) (bits_Shift.eq x0 n1 R h ▸ H)

/-! zugzwang/codec.New -/
def codec_New.body  (R : Value → Heap → Prop) (h : Heap) : Prop :=
  buildK Try.prog (Instr.build T.codec_state #[(0, (.bool true))]) (fun (v_1 : Array Value) =>
  buildK Try.prog (Instr.build T.codec_Writer #[(0, (.agg v_1))]) (fun (v_2 : Array Value) =>
  newK h v_2 T.codec_Writer (fun (v_3 : Option Addr) (h : Heap) =>
  R (.pointer v_3) h)))
def codec_New.ann : Ann := (.seq .leaf (.seq .leaf .leaf))
theorem codec_New.eq  (R : Value → Heap → Prop) (h : Heap) : codec_New.body  R h = evFn Try.prog Try.f24 codec_New.ann [] R h := by kernel_rfl
theorem codec_New.calls  {R : Value → Heap → Prop} {h : Heap} (H : codec_New.body  R h) : HC Try.prog F.codec_New #[] R h :=
  evFn_sound mixed Try.func24 (by kernel_rfl) (codec_New.eq  R h ▸ H)

/-! zugzwang/commit.bit -/
def commit_bit.body (n0 : Int) (R : Value → Heap → Prop) (h : Heap) : Prop :=
  if (n0 == 0) = true then
  R (.bool true) h
  else
  R (.bool (n0 == 1)) h
def commit_bit.ann : Ann := (.seq .leaf (.seq .leaf .leaf))
theorem commit_bit.eq (n0 : Int) (R : Value → Heap → Prop) (h : Heap) : commit_bit.body n0 R h = evFn Try.prog Try.f16 commit_bit.ann [(.int .i64 n0)] R h := by kernel_rfl
theorem commit_bit.calls {n0 : Int} {R : Value → Heap → Prop} {h : Heap} (H : commit_bit.body n0 R h) : HC Try.prog F.commit_bit #[(.int .i64 n0)] R h :=
  evFn_sound mixed Try.func16 (by kernel_rfl) (commit_bit.eq n0 R h ▸ H)

end Go.Proofs.Ythaehcldmhldjaa
