import Derived.Test.YtejpfoccooodbaaSig
set_option linter.unusedVariables false
set_option maxRecDepth 100000
namespace Go.Proofs.Ytejpfoccooodbaa
open Go.Ev
/-! zugzwang/zugzwanglaw17.size -/
def law17_size.body (l0 : Sl) (R : Value → Heap → Prop) (h : Heap) : Prop :=
  loopW (fun X_2 (s_1 : Int × Int) (h : Heap) =>
  if (decide (s_1.2 < ((l0.n : Int)))) = true then
  if (decide (s_1.1 ≤ 3000)) = true then
  idxK l0 s_1.2 (sizeOfT Try.prog T.zugzwanglaw17_Deed) (fun (a_3 : Addr) =>
  fldK ((some a_3)) 1 (fun (a_4 : Addr) =>
  loadK .slice h ((some a_4)) (fun (v_5 : Sl) =>
  idxK l0 s_1.2 (sizeOfT Try.prog T.zugzwanglaw17_Deed) (fun (a_6 : Addr) =>
  fldK ((some a_6)) 2 (fun (a_7 : Addr) =>
  loadK .slice h ((some a_7)) (fun (v_8 : Sl) =>
  idxK l0 s_1.2 (sizeOfT Try.prog T.zugzwanglaw17_Deed) (fun (a_9 : Addr) =>
  fldK ((some a_9)) 3 (fun (a_10 : Addr) =>
  loadK .slice h ((some a_10)) (fun (v_11 : Sl) =>
  loopW (fun X_13 (s_12 : Int × Int) (h : Heap) =>
  idxK l0 s_1.2 (sizeOfT Try.prog T.zugzwanglaw17_Deed) (fun (a_14 : Addr) =>
  fldK ((some a_14)) 3 (fun (a_15 : Addr) =>
  loadK .slice h ((some a_15)) (fun (v_16 : Sl) =>
  if (decide (s_12.2 < ((v_16.n : Int)))) = true then
  if (decide (s_12.1 ≤ 3000)) = true then
  idxK l0 s_1.2 (sizeOfT Try.prog T.zugzwanglaw17_Deed) (fun (a_17 : Addr) =>
  fldK ((some a_17)) 3 (fun (a_18 : Addr) =>
  loadK .slice h ((some a_18)) (fun (v_19 : Sl) =>
  idxK v_19 s_12.2 (sizeOfT Try.prog T.sl_uint8) (fun (a_20 : Addr) =>
  loadK .slice h ((some a_20)) (fun (v_21 : Sl) =>
  X_13 (IntKind.i64.wrap (s_12.1 + ((v_21.n : Int))), IntKind.i64.wrap (s_12.2 + 1)) h)))))
  else
  X_2 (s_12.1, IntKind.i64.wrap (s_1.2 + 1)) h
  else
  X_2 (s_12.1, IntKind.i64.wrap (s_1.2 + 1)) h)))) (IntKind.i64.wrap ((IntKind.i64.wrap ((IntKind.i64.wrap (s_1.1 + ((v_5.n : Int)))) + (IntKind.i64.wrap (32 * ((v_8.n : Int)))))) + ((v_11.n : Int))), 0) h)))))))))
  else
  R (.int .i64 s_1.1) h
  else
  R (.int .i64 s_1.1) h) ((l0.n : Int), 0) h
def law17_size.ann : Ann := (.seq .leaf (.seq .leaf (.seq (.seq .leaf (.block (.loop [(3, (.int .i64)), (4, (.int .i64))] (.seq (.seq .leaf (.cond .leaf .leaf)) (.seq (.block (.seq .leaf (.seq .leaf (.block (.loop [(3, (.int .i64)), (5, (.int .i64))] (.seq (.seq .leaf (.cond .leaf .leaf)) (.seq (.block .leaf) .leaf))))))) .leaf))))) (.seq .leaf .leaf))))
theorem law17_size.eq (l0 : Sl) (R : Value → Heap → Prop) (h : Heap) : law17_size.body l0 R h = evFn Try.prog Try.f6 law17_size.ann [(.slice l0.a l0.n l0.c)] R h := by kernel_rfl
theorem law17_size.calls {l0 : Sl} {R : Value → Heap → Prop} {h : Heap} (H : law17_size.body l0 R h) : HC Try.prog F.law17_size #[(.slice l0.a l0.n l0.c)] R h :=
  evFn_sound mixed Try.func6 (by kernel_rfl) (law17_size.eq l0 R h ▸ H)

/-! zugzwang/codec.New -/
def codec_New.body  (R : Value → Heap → Prop) (h : Heap) : Prop :=
  buildK Try.prog (Instr.build T.codec_state #[(0, (.bool true))]) (fun (v_1 : Array Value) =>
  buildK Try.prog (Instr.build T.codec_Writer #[(0, (.agg v_1))]) (fun (v_2 : Array Value) =>
  newK h v_2 T.codec_Writer (fun (v_3 : Option Addr) (h : Heap) =>
  R (.pointer v_3) h)))
def codec_New.ann : Ann := (.seq .leaf (.seq .leaf .leaf))
theorem codec_New.eq  (R : Value → Heap → Prop) (h : Heap) : codec_New.body  R h = evFn Try.prog Try.f8 codec_New.ann [] R h := by kernel_rfl
theorem codec_New.calls  {R : Value → Heap → Prop} {h : Heap} (H : codec_New.body  R h) : HC Try.prog F.codec_New #[] R h :=
  evFn_sound mixed Try.func8 (by kernel_rfl) (codec_New.eq  R h ▸ H)

/-! (*zugzwang/codec.state).sound -/
def codec_state_sound.body (s0 : Option Addr) (R : Value → Heap → Prop) (h : Heap) : Prop :=
  derefK s0 (fun (a_1 : Addr) =>
  fldK ((some a_1)) 1 (fun (a_2 : Addr) =>
  loadK (.int .i64) h ((some a_2)) (fun (v_3 : Int) =>
  R (.bool (v_3 == 0)) h)))
def codec_state_sound.ann : Ann := (.seq .leaf (.seq .leaf .leaf))
theorem codec_state_sound.eq (s0 : Option Addr) (R : Value → Heap → Prop) (h : Heap) : codec_state_sound.body s0 R h = evFn Try.prog Try.f52 codec_state_sound.ann [(.pointer s0)] R h := by kernel_rfl
theorem codec_state_sound.calls {s0 : Option Addr} {R : Value → Heap → Prop} {h : Heap} (H : codec_state_sound.body s0 R h) : HC Try.prog F.codec_state_sound #[(.pointer s0)] R h :=
  evFn_sound mixed Try.func52 (by kernel_rfl) (codec_state_sound.eq s0 R h ▸ H)

/-! (*zugzwang/codec.state).spoil -/
def codec_state_spoil.body (s0 : Option Addr) (e1 : Int) (R : Value → Heap → Prop) (h : Heap) : Prop :=
  joinW (fun (s_1 : Unit) (h : Heap) =>
  derefK s0 (fun (a_2 : Addr) =>
  fldK ((some a_2)) 1 (fun (a_3 : Addr) =>
  loadK (.int .i64) h ((some a_3)) (fun (v_4 : Int) =>
  R (.int .i64 v_4) h))))
  (fun J_5 =>
  derefK s0 (fun (a_6 : Addr) =>
  fldK ((some a_6)) 1 (fun (a_7 : Addr) =>
  loadK (.int .i64) h ((some a_7)) (fun (v_8 : Int) =>
  if (v_8 == 0) = true then
  derefK s0 (fun (a_9 : Addr) =>
  fldK ((some a_9)) 1 (fun (a_10 : Addr) =>
  storeK h ((some a_10)) (.int .i64 e1) (fun (h : Heap) =>
  J_5 () h)))
  else
  J_5 () h))))
def codec_state_spoil.ann : Ann := (.seq .leaf (.join [] (.seq .leaf (.cond .leaf .leaf)) (.seq .leaf .leaf)))
theorem codec_state_spoil.eq (s0 : Option Addr) (e1 : Int) (R : Value → Heap → Prop) (h : Heap) : codec_state_spoil.body s0 e1 R h = evFn Try.prog Try.f56 codec_state_spoil.ann [(.pointer s0), (.int .i64 e1)] R h := by kernel_rfl
theorem codec_state_spoil.calls {s0 : Option Addr} {e1 : Int} {R : Value → Heap → Prop} {h : Heap} (H : codec_state_spoil.body s0 e1 R h) : HC Try.prog F.codec_state_spoil #[(.pointer s0), (.int .i64 e1)] R h :=
  evFn_sound mixed Try.func56 (by kernel_rfl) (codec_state_spoil.eq s0 e1 R h ▸ H)

/-! zugzwang/codec.put[int] -/
def codec_put_int.body (w0 : Option Addr) (r1 : Array Value) (l2 : Sl) (R : Value → Heap → Prop) (h : Heap) : Prop :=
  newK h r1 T.codec_ruleaint (fun (r_1 : Option Addr) (h : Heap) =>
  if w0.isNone = true then
  R (.int .i64 1) h
  else
  derefK w0 (fun (a_2 : Addr) =>
  fldK ((some a_2)) 0 (fun (a_3 : Addr) =>
  fldK ((some a_3)) 0 (fun (a_4 : Addr) =>
  loadK .bool h ((some a_4)) (fun (v_5 : Bool) =>
  if (!v_5) = true then
  R (.int .i64 1) h
  else
  joinW (fun (s_6 : Unit) (h : Heap) =>
  derefK w0 (fun (a_7 : Addr) =>
  fldK ((some a_7)) 0 (fun (a_8 : Addr) =>
  fldK ((some a_8)) 1 (fun (a_9 : Addr) =>
  loadK (.int .i64) h ((some a_9)) (fun (v_10 : Int) =>
  R (.int .i64 v_10) h)))))
  (fun J_11 =>
  loopW (fun X_13 (s_12 : Int) (h : Heap) =>
  if (decide (s_12 < ((l2.n : Int)))) = true then
  idxK l2 s_12 (sizeOfT Try.prog T.int) (fun (a_14 : Addr) =>
  loadK (.int .i64) h ((some a_14)) (fun (v_15 : Int) =>
  derefK w0 (fun (a_16 : Addr) =>
  fldK ((some a_16)) 0 (fun (a_17 : Addr) =>
  callK Try.prog .bool F.codec_state_sound #[(.pointer ((some a_17)))] (fun (v_18 : Bool) (h : Heap) =>
  if (!v_18) = true then
  J_11 () h
  else
  joinW (fun (s_19 : Bool) (h : Heap) =>
  if s_19 = true then
  derefK w0 (fun (a_20 : Addr) =>
  fldK ((some a_20)) 0 (fun (a_21 : Addr) =>
  callK Try.prog (.int .i64) F.codec_state_spoil #[(.pointer ((some a_21))), (.int .i64 2)] (fun (v_22 : Int) (h : Heap) =>
  R (.int .i64 v_22) h) h))
  else
  fldK r_1 1 (fun (a_23 : Addr) =>
  loadK .any h ((some a_23)) (fun (v_24 : Value) =>
  callV Try.prog .slice v_24 #[(.int .i64 v_15)] (fun (v_25 : Sl) (h : Heap) =>
  derefK w0 (fun (a_26 : Addr) =>
  fldK ((some a_26)) 2 (fun (a_27 : Addr) =>
  loadK .slice h ((some a_27)) (fun (v_28 : Sl) =>
  if (decide ((IntKind.i64.wrap (((v_28.n : Int)) + ((v_25.n : Int)))) > 65536)) = true then
  derefK w0 (fun (a_29 : Addr) =>
  fldK ((some a_29)) 0 (fun (a_30 : Addr) =>
  callK Try.prog (.int .i64) F.codec_state_spoil #[(.pointer ((some a_30))), (.int .i64 3)] (fun (v_31 : Int) (h : Heap) =>
  R (.int .i64 v_31) h) h))
  else
  derefK w0 (fun (a_32 : Addr) =>
  fldK ((some a_32)) 2 (fun (a_33 : Addr) =>
  loadK .slice h ((some a_33)) (fun (v_34 : Sl) =>
  opK Try.prog .slice (Builtin.append_ #[T.sl_uint8, T.sl_uint8] T.sl_uint8 #[(.slice v_34.a v_34.n v_34.c), (.slice v_25.a v_25.n v_25.c)]) (fun (v_35 : Sl) (h : Heap) =>
  derefK w0 (fun (a_36 : Addr) =>
  fldK ((some a_36)) 2 (fun (a_37 : Addr) =>
  storeK h ((some a_37)) (.slice v_35.a v_35.n v_35.c) (fun (h : Heap) =>
  X_13 (IntKind.i64.wrap (s_12 + 1)) h)))) h))))))) h)))
  (fun J_38 =>
  fldK r_1 0 (fun (a_39 : Addr) =>
  loadK .any h ((some a_39)) (fun (v_40 : Value) =>
  eqK Try.prog (binSem .neq T.func74 (.tmp 32) (.const Value.nilFunc) v_40 Value.nilFunc) (fun (v_41 : Bool) =>
  if v_41 = true then
  fldK r_1 0 (fun (a_42 : Addr) =>
  loadK .any h ((some a_42)) (fun (v_43 : Value) =>
  callV Try.prog .bool v_43 #[(.int .i64 v_15)] (fun (v_44 : Bool) (h : Heap) =>
  J_38 (!v_44) h) h))
  else
  J_38 false h))))) h))))
  else
  J_11 () h) 0 h))))))
def codec_put_int.ann : Ann := (.seq .leaf (.seq (.seq .leaf (.cond (.seq .leaf .leaf) .leaf)) (.join [] (.seq .leaf (.block (.loop [(22, (.int .i64))] (.seq .leaf (.seq (.cond .leaf .leaf) (.seq (.block (.seq .leaf (.seq (.seq .leaf (.cond .leaf .leaf)) (.seq (.join [(40, .bool)] .leaf (.cond (.seq .leaf .leaf) .leaf)) (.seq .leaf (.seq (.seq .leaf (.cond (.seq .leaf .leaf) .leaf)) .leaf)))))) .leaf)))))) (.seq .leaf .leaf))))
theorem codec_put_int.eq (w0 : Option Addr) (r1 : Array Value) (l2 : Sl) (R : Value → Heap → Prop) (h : Heap) : codec_put_int.body w0 r1 l2 R h = evFn Try.prog Try.f40 codec_put_int.ann [(.pointer w0), (.agg r1), (.slice l2.a l2.n l2.c)] R h := by kernel_rfl
theorem codec_put_int.calls {w0 : Option Addr} {r1 : Array Value} {l2 : Sl} {R : Value → Heap → Prop} {h : Heap} (H : codec_put_int.body w0 r1 l2 R h) : HC Try.prog F.codec_put_int #[(.pointer w0), (.agg r1), (.slice l2.a l2.n l2.c)] R h :=
  evFn_sound mixed Try.func40 (by kernel_rfl) (codec_put_int.eq w0 r1 l2 R h ▸ H)

/-! zugzwang/codec.within$1 -/
def codec_within_1.body (n0 : Int) (x1 : Option Addr) (R : Value → Heap → Prop) (h : Heap) : Prop :=
  if (decide (n0 ≥ 0)) = true then
  loadK (.int .i64) h x1 (fun (v_1 : Int) =>
  R (.bool (decide (n0 ≤ v_1))) h)
  else
  R (.bool false) h
def codec_within_1.ann : Ann := (.seq .leaf (.seq .leaf .leaf))
theorem codec_within_1.eq (n0 : Int) (x1 : Option Addr) (R : Value → Heap → Prop) (h : Heap) : codec_within_1.body n0 x1 R h = evFn Try.prog Try.f57 codec_within_1.ann [(.int .i64 n0), (.pointer x1)] R h := by kernel_rfl
theorem codec_within_1.calls {n0 : Int} {x1 : Option Addr} {R : Value → Heap → Prop} {h : Heap} (H : codec_within_1.body n0 x1 R h) : HC Try.prog F.codec_within_1 #[(.int .i64 n0), (.pointer x1)] R h :=
  evFn_sound mixed Try.func57 (by kernel_rfl) (codec_within_1.eq n0 x1 R h ▸ H)

/-! zugzwang/codec.within -/
def codec_within.body (most0 : Int) (R : Value → Heap → Prop) (h : Heap) : Prop :=
  newK h #[(.int .i64 most0)] T.int (fun (most_1 : Option Addr) (h : Heap) =>
  R ((Value.func (.func F.codec_within_1) #[] #[(.pointer most_1)])) h)
def codec_within.ann : Ann := (.seq .leaf (.seq .leaf .leaf))
theorem codec_within.eq (most0 : Int) (R : Value → Heap → Prop) (h : Heap) : codec_within.body most0 R h = evFn Try.prog Try.f41 codec_within.ann [(.int .i64 most0)] R h := by kernel_rfl
theorem codec_within.calls {most0 : Int} {R : Value → Heap → Prop} {h : Heap} (H : codec_within.body most0 R h) : HC Try.prog F.codec_within #[(.int .i64 most0)] R h :=
  evFn_sound mixed Try.func41 (by kernel_rfl) (codec_within.eq most0 R h ▸ H)

/-! (*zugzwang/codec.Writer).Byte$1 -/
def codec_Writer_Byte_1.body (n0 : Int) (R : Value → Heap → Prop) (h : Heap) : Prop :=
  newSlK h 1 #[(.int .u8 (IntKind.u8.wrap n0))] T.uint8 (fun (v_1 : Sl) (h : Heap) =>
  R (.slice v_1.a v_1.n v_1.c) h)
def codec_Writer_Byte_1.ann : Ann := (.seq .leaf (.seq .leaf .leaf))
theorem codec_Writer_Byte_1.eq (n0 : Int) (R : Value → Heap → Prop) (h : Heap) : codec_Writer_Byte_1.body n0 R h = evFn Try.prog Try.f42 codec_Writer_Byte_1.ann [(.int .i64 n0)] R h := by kernel_rfl
theorem codec_Writer_Byte_1.calls {n0 : Int} {R : Value → Heap → Prop} {h : Heap} (H : codec_Writer_Byte_1.body n0 R h) : HC Try.prog F.codec_Writer_Byte_1 #[(.int .i64 n0)] R h :=
  evFn_sound mixed Try.func42 (by kernel_rfl) (codec_Writer_Byte_1.eq n0 R h ▸ H)

/-! (*zugzwang/codec.Writer).Byte -/
def codec_Writer_Byte.body (w0 : Option Addr) (l1 : Sl) (R : Value → Heap → Prop) (h : Heap) : Prop :=
  callK Try.prog .any F.codec_within #[(.int .i64 255)] (fun (v_1 : Value) (h : Heap) =>
  buildK Try.prog (Instr.build T.codec_ruleaint #[(0, v_1), (1, ((Value.func (.func F.codec_Writer_Byte_1) #[] #[])))]) (fun (v_2 : Array Value) =>
  callK Try.prog (.int .i64) F.codec_put_int #[(.pointer w0), (.agg v_2), (.slice l1.a l1.n l1.c)] (fun (v_3 : Int) (h : Heap) =>
  R (.int .i64 v_3) h) h)) h
def codec_Writer_Byte.ann : Ann := (.seq .leaf (.seq .leaf .leaf))
theorem codec_Writer_Byte.eq (w0 : Option Addr) (l1 : Sl) (R : Value → Heap → Prop) (h : Heap) : codec_Writer_Byte.body w0 l1 R h = evFn Try.prog Try.f13 codec_Writer_Byte.ann [(.pointer w0), (.slice l1.a l1.n l1.c)] R h := by kernel_rfl
theorem codec_Writer_Byte.calls {w0 : Option Addr} {l1 : Sl} {R : Value → Heap → Prop} {h : Heap} (H : codec_Writer_Byte.body w0 l1 R h) : HC Try.prog F.codec_Writer_Byte #[(.pointer w0), (.slice l1.a l1.n l1.c)] R h :=
  evFn_sound mixed Try.func13 (by kernel_rfl) (codec_Writer_Byte.eq w0 l1 R h ▸ H)

/-! zugzwang/codec.bytes4 -/
def codec_bytes4.body (n0 : Int) (R : Value → Heap → Prop) (h : Heap) : Prop :=
  shiftK 24
  (shiftK 16
  (shiftK 8
  (newSlK h 4 #[(.int .u8 (IntKind.u8.wrap (Int.fdiv n0 (2 ^ min (Int.toNat 24) (IntKind.bits .i64))))), (.int .u8 (IntKind.u8.wrap (Int.fdiv n0 (2 ^ min (Int.toNat 16) (IntKind.bits .i64))))), (.int .u8 (IntKind.u8.wrap (Int.fdiv n0 (2 ^ min (Int.toNat 8) (IntKind.bits .i64))))), (.int .u8 (IntKind.u8.wrap n0))] T.uint8 (fun (v_1 : Sl) (h : Heap) =>
  R (.slice v_1.a v_1.n v_1.c) h))))
def codec_bytes4.ann : Ann := (.seq .leaf (.seq .leaf .leaf))
theorem codec_bytes4.eq (n0 : Int) (R : Value → Heap → Prop) (h : Heap) : codec_bytes4.body n0 R h = evFn Try.prog Try.f44 codec_bytes4.ann [(.int .i64 n0)] R h := by kernel_rfl
theorem codec_bytes4.calls {n0 : Int} {R : Value → Heap → Prop} {h : Heap} (H : codec_bytes4.body n0 R h) : HC Try.prog F.codec_bytes4 #[(.int .i64 n0)] R h :=
  evFn_sound mixed Try.func44 (by kernel_rfl) (codec_bytes4.eq n0 R h ▸ H)

/-! (*zugzwang/codec.Writer).Number -/
def codec_Writer_Number.body (w0 : Option Addr) (l1 : Sl) (R : Value → Heap → Prop) (h : Heap) : Prop :=
  callK Try.prog .any F.codec_within #[(.int .i64 4294967295)] (fun (v_1 : Value) (h : Heap) =>
  buildK Try.prog (Instr.build T.codec_ruleaint #[(0, v_1), (1, ((Value.func (.func F.codec_bytes4) #[] #[])))]) (fun (v_2 : Array Value) =>
  callK Try.prog (.int .i64) F.codec_put_int #[(.pointer w0), (.agg v_2), (.slice l1.a l1.n l1.c)] (fun (v_3 : Int) (h : Heap) =>
  R (.int .i64 v_3) h) h)) h
def codec_Writer_Number.ann : Ann := (.seq .leaf (.seq .leaf .leaf))
theorem codec_Writer_Number.eq (w0 : Option Addr) (l1 : Sl) (R : Value → Heap → Prop) (h : Heap) : codec_Writer_Number.body w0 l1 R h = evFn Try.prog Try.f15 codec_Writer_Number.ann [(.pointer w0), (.slice l1.a l1.n l1.c)] R h := by kernel_rfl
theorem codec_Writer_Number.calls {w0 : Option Addr} {l1 : Sl} {R : Value → Heap → Prop} {h : Heap} (H : codec_Writer_Number.body w0 l1 R h) : HC Try.prog F.codec_Writer_Number #[(.pointer w0), (.slice l1.a l1.n l1.c)] R h :=
  evFn_sound mixed Try.func15 (by kernel_rfl) (codec_Writer_Number.eq w0 l1 R h ▸ H)

/-! zugzwang/codec.put[[]byte] -/
def codec_put_byte.body (w0 : Option Addr) (r1 : Array Value) (l2 : Sl) (R : Value → Heap → Prop) (h : Heap) : Prop :=
  newK h r1 T.codec_ruleasl_byte (fun (r_1 : Option Addr) (h : Heap) =>
  if w0.isNone = true then
  R (.int .i64 1) h
  else
  derefK w0 (fun (a_2 : Addr) =>
  fldK ((some a_2)) 0 (fun (a_3 : Addr) =>
  fldK ((some a_3)) 0 (fun (a_4 : Addr) =>
  loadK .bool h ((some a_4)) (fun (v_5 : Bool) =>
  if (!v_5) = true then
  R (.int .i64 1) h
  else
  joinW (fun (s_6 : Unit) (h : Heap) =>
  derefK w0 (fun (a_7 : Addr) =>
  fldK ((some a_7)) 0 (fun (a_8 : Addr) =>
  fldK ((some a_8)) 1 (fun (a_9 : Addr) =>
  loadK (.int .i64) h ((some a_9)) (fun (v_10 : Int) =>
  R (.int .i64 v_10) h)))))
  (fun J_11 =>
  loopW (fun X_13 (s_12 : Int) (h : Heap) =>
  if (decide (s_12 < ((l2.n : Int)))) = true then
  idxK l2 s_12 (sizeOfT Try.prog T.sl_uint8) (fun (a_14 : Addr) =>
  loadK .slice h ((some a_14)) (fun (v_15 : Sl) =>
  derefK w0 (fun (a_16 : Addr) =>
  fldK ((some a_16)) 0 (fun (a_17 : Addr) =>
  callK Try.prog .bool F.codec_state_sound #[(.pointer ((some a_17)))] (fun (v_18 : Bool) (h : Heap) =>
  if (!v_18) = true then
  J_11 () h
  else
  joinW (fun (s_19 : Bool) (h : Heap) =>
  if s_19 = true then
  derefK w0 (fun (a_20 : Addr) =>
  fldK ((some a_20)) 0 (fun (a_21 : Addr) =>
  callK Try.prog (.int .i64) F.codec_state_spoil #[(.pointer ((some a_21))), (.int .i64 2)] (fun (v_22 : Int) (h : Heap) =>
  R (.int .i64 v_22) h) h))
  else
  fldK r_1 1 (fun (a_23 : Addr) =>
  loadK .any h ((some a_23)) (fun (v_24 : Value) =>
  callV Try.prog .slice v_24 #[(.slice v_15.a v_15.n v_15.c)] (fun (v_25 : Sl) (h : Heap) =>
  derefK w0 (fun (a_26 : Addr) =>
  fldK ((some a_26)) 2 (fun (a_27 : Addr) =>
  loadK .slice h ((some a_27)) (fun (v_28 : Sl) =>
  if (decide ((IntKind.i64.wrap (((v_28.n : Int)) + ((v_25.n : Int)))) > 65536)) = true then
  derefK w0 (fun (a_29 : Addr) =>
  fldK ((some a_29)) 0 (fun (a_30 : Addr) =>
  callK Try.prog (.int .i64) F.codec_state_spoil #[(.pointer ((some a_30))), (.int .i64 3)] (fun (v_31 : Int) (h : Heap) =>
  R (.int .i64 v_31) h) h))
  else
  derefK w0 (fun (a_32 : Addr) =>
  fldK ((some a_32)) 2 (fun (a_33 : Addr) =>
  loadK .slice h ((some a_33)) (fun (v_34 : Sl) =>
  opK Try.prog .slice (Builtin.append_ #[T.sl_uint8, T.sl_uint8] T.sl_uint8 #[(.slice v_34.a v_34.n v_34.c), (.slice v_25.a v_25.n v_25.c)]) (fun (v_35 : Sl) (h : Heap) =>
  derefK w0 (fun (a_36 : Addr) =>
  fldK ((some a_36)) 2 (fun (a_37 : Addr) =>
  storeK h ((some a_37)) (.slice v_35.a v_35.n v_35.c) (fun (h : Heap) =>
  X_13 (IntKind.i64.wrap (s_12 + 1)) h)))) h))))))) h)))
  (fun J_38 =>
  fldK r_1 0 (fun (a_39 : Addr) =>
  loadK .any h ((some a_39)) (fun (v_40 : Value) =>
  eqK Try.prog (binSem .neq T.func86 (.tmp 32) (.const Value.nilFunc) v_40 Value.nilFunc) (fun (v_41 : Bool) =>
  if v_41 = true then
  fldK r_1 0 (fun (a_42 : Addr) =>
  loadK .any h ((some a_42)) (fun (v_43 : Value) =>
  callV Try.prog .bool v_43 #[(.slice v_15.a v_15.n v_15.c)] (fun (v_44 : Bool) (h : Heap) =>
  J_38 (!v_44) h) h))
  else
  J_38 false h))))) h))))
  else
  J_11 () h) 0 h))))))
def codec_put_byte.ann : Ann := (.seq .leaf (.seq (.seq .leaf (.cond (.seq .leaf .leaf) .leaf)) (.join [] (.seq .leaf (.block (.loop [(22, (.int .i64))] (.seq .leaf (.seq (.cond .leaf .leaf) (.seq (.block (.seq .leaf (.seq (.seq .leaf (.cond .leaf .leaf)) (.seq (.join [(40, .bool)] .leaf (.cond (.seq .leaf .leaf) .leaf)) (.seq .leaf (.seq (.seq .leaf (.cond (.seq .leaf .leaf) .leaf)) .leaf)))))) .leaf)))))) (.seq .leaf .leaf))))
theorem codec_put_byte.eq (w0 : Option Addr) (r1 : Array Value) (l2 : Sl) (R : Value → Heap → Prop) (h : Heap) : codec_put_byte.body w0 r1 l2 R h = evFn Try.prog Try.f48 codec_put_byte.ann [(.pointer w0), (.agg r1), (.slice l2.a l2.n l2.c)] R h := by kernel_rfl
theorem codec_put_byte.calls {w0 : Option Addr} {r1 : Array Value} {l2 : Sl} {R : Value → Heap → Prop} {h : Heap} (H : codec_put_byte.body w0 r1 l2 R h) : HC Try.prog F.codec_put_byte #[(.pointer w0), (.agg r1), (.slice l2.a l2.n l2.c)] R h :=
  evFn_sound mixed Try.func48 (by kernel_rfl) (codec_put_byte.eq w0 r1 l2 R h ▸ H)

/-! slices.Grow[[]byte,byte] -/
def slices_Grow_byte_byte.body (s0 : Sl) (n1 : Int) (R : Value → Heap → Prop) (h : Heap) : Prop :=
  if (decide (n1 < 0)) = true then
  opK Try.prog .any (Instr.makeInterface T.string (.string ((⟨#[99, 97, 110, 110, 111, 116, 32, 98, 101, 32, 110, 101, 103, 97, 116, 105, 118, 101]⟩ : ByteArray)))) (fun (v_1 : Value) (h : Heap) =>
  False) h
  else
  if (decide ((IntKind.i64.wrap (n1 - (IntKind.i64.wrap (((s0.c : Int)) - ((s0.n : Int)))))) > 0)) = true then
  sliceK s0 none (some ((s0.c : Int))) none (sizeOfT Try.prog T.uint8) (fun (v_2 : Sl) =>
  opK Try.prog .slice (Builtin.append_ #[T.sl_uint8, T.int] T.sl_uint8 #[(.slice v_2.a v_2.n v_2.c), (.int .i64 (IntKind.i64.wrap (n1 - (IntKind.i64.wrap (((s0.c : Int)) - ((s0.n : Int)))))))]) (fun (v_3 : Sl) (h : Heap) =>
  sliceK v_3 none (some ((s0.n : Int))) none (sizeOfT Try.prog T.uint8) (fun (v_4 : Sl) =>
  R (.slice v_4.a v_4.n v_4.c) h)) h)
  else
  R (.slice s0.a s0.n s0.c) h
def slices_Grow_byte_byte.ann : Ann := (.seq .leaf (.seq (.seq .leaf (.cond .leaf .leaf)) (.seq (.seq .leaf (.seq .leaf (.cond .leaf .leaf))) (.seq .leaf .leaf))))
theorem slices_Grow_byte_byte.eq (s0 : Sl) (n1 : Int) (R : Value → Heap → Prop) (h : Heap) : slices_Grow_byte_byte.body s0 n1 R h = evFn Try.prog Try.f58 slices_Grow_byte_byte.ann [(.slice s0.a s0.n s0.c), (.int .i64 n1)] R h := by kernel_rfl
theorem slices_Grow_byte_byte.calls {s0 : Sl} {n1 : Int} {R : Value → Heap → Prop} {h : Heap} (H : slices_Grow_byte_byte.body s0 n1 R h) : HC Try.prog F.slices_Grow_byte_byte #[(.slice s0.a s0.n s0.c), (.int .i64 n1)] R h :=
  evFn_sound mixed Try.func58 (by kernel_rfl) (slices_Grow_byte_byte.eq s0 n1 R h ▸ H)

/-! slices.Concat[[]byte,byte] -/
def slices_Concat_byte_byte.body (slices0 : Sl) (R : Value → Heap → Prop) (h : Heap) : Prop :=
  loopW (fun X_2 (s_1 : Int × Int) (h : Heap) =>
  if (decide (s_1.2 < ((slices0.n : Int)))) = true then
  idxK slices0 s_1.2 (sizeOfT Try.prog T.sl_uint8) (fun (a_3 : Addr) =>
  loadK .slice h ((some a_3)) (fun (v_4 : Sl) =>
  if (decide ((IntKind.i64.wrap (s_1.1 + ((v_4.n : Int)))) < 0)) = true then
  opK Try.prog .any (Instr.makeInterface T.string (.string ((⟨#[108, 101, 110, 32, 111, 117, 116, 32, 111, 102, 32, 114, 97, 110, 103, 101]⟩ : ByteArray)))) (fun (v_5 : Value) (h : Heap) =>
  False) h
  else
  X_2 (IntKind.i64.wrap (s_1.1 + ((v_4.n : Int))), IntKind.i64.wrap (s_1.2 + 1)) h))
  else
  callK Try.prog .slice F.slices_Grow_byte_byte #[(.slice none 0 0), (.int .i64 s_1.1)] (fun (v_6 : Sl) (h : Heap) =>
  loopW (fun X_8 (s_7 : Sl × Int) (h : Heap) =>
  if (decide (s_7.2 < ((slices0.n : Int)))) = true then
  idxK slices0 s_7.2 (sizeOfT Try.prog T.sl_uint8) (fun (a_9 : Addr) =>
  loadK .slice h ((some a_9)) (fun (v_10 : Sl) =>
  opK Try.prog .slice (Builtin.append_ #[T.sl_uint8, T.sl_uint8] T.sl_uint8 #[(.slice s_7.1.a s_7.1.n s_7.1.c), (.slice v_10.a v_10.n v_10.c)]) (fun (v_11 : Sl) (h : Heap) =>
  X_8 (v_11, IntKind.i64.wrap (s_7.2 + 1)) h) h))
  else
  R (.slice s_7.1.a s_7.1.n s_7.1.c) h) (v_6, 0) h) h) (0, 0) h
def slices_Concat_byte_byte.ann : Ann := (.seq .leaf (.seq .leaf (.seq (.seq .leaf (.block (.loop [(3, (.int .i64)), (11, (.int .i64))] (.seq .leaf (.seq (.cond .leaf .leaf) (.seq (.block (.seq .leaf (.seq .leaf (.seq .leaf (.cond .leaf .leaf))))) .leaf)))))) (.seq .leaf (.seq (.seq .leaf (.block (.loop [(6, .slice), (27, (.int .i64))] (.seq .leaf (.seq (.cond .leaf .leaf) (.seq (.block (.seq .leaf .leaf)) .leaf)))))) (.seq .leaf .leaf))))))
theorem slices_Concat_byte_byte.eq (slices0 : Sl) (R : Value → Heap → Prop) (h : Heap) : slices_Concat_byte_byte.body slices0 R h = evFn Try.prog Try.f50 slices_Concat_byte_byte.ann [(.slice slices0.a slices0.n slices0.c)] R h := by kernel_rfl
theorem slices_Concat_byte_byte.calls {slices0 : Sl} {R : Value → Heap → Prop} {h : Heap} (H : slices_Concat_byte_byte.body slices0 R h) : HC Try.prog F.slices_Concat_byte_byte #[(.slice slices0.a slices0.n slices0.c)] R h :=
  evFn_sound mixed Try.func50 (by kernel_rfl) (slices_Concat_byte_byte.eq slices0 R h ▸ H)

/-! (*zugzwang/codec.Writer).Run$1 -/
def codec_Writer_Run_1.body (b0 : Sl) (R : Value → Heap → Prop) (h : Heap) : Prop :=
  callK Try.prog .slice F.codec_bytes4 #[(.int .i64 ((b0.n : Int)))] (fun (v_1 : Sl) (h : Heap) =>
  newSlK h 2 #[(.slice v_1.a v_1.n v_1.c), (.slice b0.a b0.n b0.c)] T.sl_uint8 (fun (v_2 : Sl) (h : Heap) =>
  callK Try.prog .slice F.slices_Concat_byte_byte #[(.slice v_2.a v_2.n v_2.c)] (fun (v_3 : Sl) (h : Heap) =>
  R (.slice v_3.a v_3.n v_3.c) h) h)) h
def codec_Writer_Run_1.ann : Ann := (.seq .leaf (.seq .leaf .leaf))
theorem codec_Writer_Run_1.eq (b0 : Sl) (R : Value → Heap → Prop) (h : Heap) : codec_Writer_Run_1.body b0 R h = evFn Try.prog Try.f49 codec_Writer_Run_1.ann [(.slice b0.a b0.n b0.c)] R h := by kernel_rfl
theorem codec_Writer_Run_1.calls {b0 : Sl} {R : Value → Heap → Prop} {h : Heap} (H : codec_Writer_Run_1.body b0 R h) : HC Try.prog F.codec_Writer_Run_1 #[(.slice b0.a b0.n b0.c)] R h :=
  evFn_sound mixed Try.func49 (by kernel_rfl) (codec_Writer_Run_1.eq b0 R h ▸ H)

/-! (*zugzwang/codec.Writer).Run -/
def codec_Writer_Run.body (w0 : Option Addr) (l1 : Sl) (R : Value → Heap → Prop) (h : Heap) : Prop :=
  buildK Try.prog (Instr.build T.codec_ruleasl_byte #[(1, ((Value.func (.func F.codec_Writer_Run_1) #[] #[])))]) (fun (v_1 : Array Value) =>
  callK Try.prog (.int .i64) F.codec_put_byte #[(.pointer w0), (.agg v_1), (.slice l1.a l1.n l1.c)] (fun (v_2 : Int) (h : Heap) =>
  R (.int .i64 v_2) h) h)
def codec_Writer_Run.ann : Ann := (.seq .leaf (.seq .leaf .leaf))
theorem codec_Writer_Run.eq (w0 : Option Addr) (l1 : Sl) (R : Value → Heap → Prop) (h : Heap) : codec_Writer_Run.body w0 l1 R h = evFn Try.prog Try.f19 codec_Writer_Run.ann [(.pointer w0), (.slice l1.a l1.n l1.c)] R h := by kernel_rfl
theorem codec_Writer_Run.calls {w0 : Option Addr} {l1 : Sl} {R : Value → Heap → Prop} {h : Heap} (H : codec_Writer_Run.body w0 l1 R h) : HC Try.prog F.codec_Writer_Run #[(.pointer w0), (.slice l1.a l1.n l1.c)] R h :=
  evFn_sound mixed Try.func19 (by kernel_rfl) (codec_Writer_Run.eq w0 l1 R h ▸ H)

/-! slices.Clone[[]byte,byte] -/
def slices_Clone_byte_byte.body (s0 : Sl) (R : Value → Heap → Prop) (h : Heap) : Prop :=
  if s0.a.isNone = true then
  R (.slice none 0 0) h
  else
  newSlK h 0 #[] T.uint8 (fun (v_1 : Sl) (h : Heap) =>
  opK Try.prog .slice (Builtin.append_ #[T.sl_uint8, T.sl_uint8] T.sl_uint8 #[(.slice v_1.a v_1.n v_1.c), (.slice s0.a s0.n s0.c)]) (fun (v_2 : Sl) (h : Heap) =>
  R (.slice v_2.a v_2.n v_2.c) h) h)
def slices_Clone_byte_byte.ann : Ann := (.seq .leaf (.seq (.seq .leaf (.cond (.seq .leaf .leaf) .leaf)) (.seq .leaf .leaf)))
theorem slices_Clone_byte_byte.eq (s0 : Sl) (R : Value → Heap → Prop) (h : Heap) : slices_Clone_byte_byte.body s0 R h = evFn Try.prog Try.f53 slices_Clone_byte_byte.ann [(.slice s0.a s0.n s0.c)] R h := by kernel_rfl
theorem slices_Clone_byte_byte.calls {s0 : Sl} {R : Value → Heap → Prop} {h : Heap} (H : slices_Clone_byte_byte.body s0 R h) : HC Try.prog F.slices_Clone_byte_byte #[(.slice s0.a s0.n s0.c)] R h :=
  evFn_sound mixed Try.func53 (by kernel_rfl) (slices_Clone_byte_byte.eq s0 R h ▸ H)

/-! (*zugzwang/codec.Writer).Out -/
def codec_Writer_Out.body (w0 : Option Addr) (R : Value → Heap → Prop) (h : Heap) : Prop :=
  joinW (fun (s_1 : Bool) (h : Heap) =>
  if s_1 = true then
  R (.tuple #[(.slice none 0 0), (.int .i64 1)]) h
  else
  derefK w0 (fun (a_2 : Addr) =>
  fldK ((some a_2)) 0 (fun (a_3 : Addr) =>
  callK Try.prog .bool F.codec_state_sound #[(.pointer ((some a_3)))] (fun (v_4 : Bool) (h : Heap) =>
  if (!v_4) = true then
  derefK w0 (fun (a_5 : Addr) =>
  fldK ((some a_5)) 0 (fun (a_6 : Addr) =>
  fldK ((some a_6)) 1 (fun (a_7 : Addr) =>
  loadK (.int .i64) h ((some a_7)) (fun (v_8 : Int) =>
  R (.tuple #[(.slice none 0 0), (.int .i64 v_8)]) h))))
  else
  derefK w0 (fun (a_9 : Addr) =>
  fldK ((some a_9)) 2 (fun (a_10 : Addr) =>
  loadK .slice h ((some a_10)) (fun (v_11 : Sl) =>
  callK Try.prog .slice F.slices_Clone_byte_byte #[(.slice v_11.a v_11.n v_11.c)] (fun (v_12 : Sl) (h : Heap) =>
  R (.tuple #[(.slice v_12.a v_12.n v_12.c), (.int .i64 0)]) h) h)))) h)))
  (fun J_13 =>
  if w0.isNone = true then
  J_13 true h
  else
  derefK w0 (fun (a_14 : Addr) =>
  fldK ((some a_14)) 0 (fun (a_15 : Addr) =>
  fldK ((some a_15)) 0 (fun (a_16 : Addr) =>
  loadK .bool h ((some a_16)) (fun (v_17 : Bool) =>
  J_13 (!v_17) h)))))
def codec_Writer_Out.ann : Ann := (.seq .leaf (.seq (.block (.join [(4, .bool)] .leaf (.cond (.seq .leaf .leaf) (.seq .leaf (.cond (.seq .leaf .leaf) .leaf))))) (.seq .leaf .leaf)))
theorem codec_Writer_Out.eq (w0 : Option Addr) (R : Value → Heap → Prop) (h : Heap) : codec_Writer_Out.body w0 R h = evFn Try.prog Try.f24 codec_Writer_Out.ann [(.pointer w0)] R h := by kernel_rfl
theorem codec_Writer_Out.calls {w0 : Option Addr} {R : Value → Heap → Prop} {h : Heap} (H : codec_Writer_Out.body w0 R h) : HC Try.prog F.codec_Writer_Out #[(.pointer w0)] R h :=
  evFn_sound mixed Try.func24 (by kernel_rfl) (codec_Writer_Out.eq w0 R h ▸ H)

/-! zugzwang/zugzwangkit.SameBytes -/
def kit_SameBytes.body (a0 : Sl) (b1 : Sl) (R : Value → Heap → Prop) (h : Heap) : Prop :=
  if (((a0.n : Int)) != ((b1.n : Int))) = true then
  R (.bool false) h
  else
  loopW (fun X_2 (s_1 : Int) (h : Heap) =>
  if (decide (s_1 < ((a0.n : Int)))) = true then
  idxK a0 s_1 (sizeOfT Try.prog T.uint8) (fun (a_3 : Addr) =>
  loadK (.int .u8) h ((some a_3)) (fun (v_4 : Int) =>
  idxK b1 s_1 (sizeOfT Try.prog T.uint8) (fun (a_5 : Addr) =>
  loadK (.int .u8) h ((some a_5)) (fun (v_6 : Int) =>
  if (v_4 != v_6) = true then
  R (.bool false) h
  else
  X_2 (IntKind.i64.wrap (s_1 + 1)) h))))
  else
  R (.bool true) h) 0 h
def kit_SameBytes.ann : Ann := (.seq .leaf (.seq (.seq .leaf (.cond (.seq .leaf .leaf) .leaf)) (.seq (.seq .leaf (.block (.loop [(5, (.int .i64))] (.seq (.seq .leaf (.cond .leaf .leaf)) (.seq (.block (.seq .leaf (.cond (.seq .leaf .leaf) .leaf))) .leaf))))) (.seq .leaf .leaf))))
theorem kit_SameBytes.eq (a0 : Sl) (b1 : Sl) (R : Value → Heap → Prop) (h : Heap) : kit_SameBytes.body a0 b1 R h = evFn Try.prog Try.f26 kit_SameBytes.ann [(.slice a0.a a0.n a0.c), (.slice b1.a b1.n b1.c)] R h := by kernel_rfl
theorem kit_SameBytes.calls {a0 : Sl} {b1 : Sl} {R : Value → Heap → Prop} {h : Heap} (H : kit_SameBytes.body a0 b1 R h) : HC Try.prog F.kit_SameBytes #[(.slice a0.a a0.n a0.c), (.slice b1.a b1.n b1.c)] R h :=
  evFn_sound mixed Try.func26 (by kernel_rfl) (kit_SameBytes.eq a0 b1 R h ▸ H)

/-! zugzwang/codec.Read -/
def codec_Read.body (b0 : Sl) (R : Value → Heap → Prop) (h : Heap) : Prop :=
  buildK Try.prog (Instr.build T.codec_state #[(0, (.bool true))]) (fun (v_1 : Array Value) =>
  callK Try.prog .slice F.slices_Clone_byte_byte #[(.slice b0.a b0.n b0.c)] (fun (v_2 : Sl) (h : Heap) =>
  buildK Try.prog (Instr.build T.codec_place #[(0, (.slice v_2.a v_2.n v_2.c)), (1, (.int .i64 0))]) (fun (v_3 : Array Value) =>
  buildK Try.prog (Instr.build T.codec_Reader #[(0, (.agg v_1)), (1, (.agg v_3))]) (fun (v_4 : Array Value) =>
  newK h v_4 T.codec_Reader (fun (v_5 : Option Addr) (h : Heap) =>
  R (.pointer v_5) h)))) h)
def codec_Read.ann : Ann := (.seq .leaf (.seq .leaf .leaf))
theorem codec_Read.eq (b0 : Sl) (R : Value → Heap → Prop) (h : Heap) : codec_Read.body b0 R h = evFn Try.prog Try.f29 codec_Read.ann [(.slice b0.a b0.n b0.c)] R h := by kernel_rfl
theorem codec_Read.calls {b0 : Sl} {R : Value → Heap → Prop} {h : Heap} (H : codec_Read.body b0 R h) : HC Try.prog F.codec_Read #[(.slice b0.a b0.n b0.c)] R h :=
  evFn_sound mixed Try.func29 (by kernel_rfl) (codec_Read.eq b0 R h ▸ H)

/-! (*zugzwang/codec.Reader).Left -/
def codec_Reader_Left.body (r0 : Option Addr) (R : Value → Heap → Prop) (h : Heap) : Prop :=
  if r0.isNone = true then
  R (.int .i64 0) h
  else
  derefK r0 (fun (a_1 : Addr) =>
  fldK ((some a_1)) 0 (fun (a_2 : Addr) =>
  fldK ((some a_2)) 0 (fun (a_3 : Addr) =>
  loadK .bool h ((some a_3)) (fun (v_4 : Bool) =>
  if (!v_4) = true then
  R (.int .i64 0) h
  else
  derefK r0 (fun (a_5 : Addr) =>
  fldK ((some a_5)) 2 (fun (a_6 : Addr) =>
  fldK ((some a_6)) 0 (fun (a_7 : Addr) =>
  loadK .slice h ((some a_7)) (fun (v_8 : Sl) =>
  derefK r0 (fun (a_9 : Addr) =>
  fldK ((some a_9)) 2 (fun (a_10 : Addr) =>
  fldK ((some a_10)) 1 (fun (a_11 : Addr) =>
  loadK (.int .i64) h ((some a_11)) (fun (v_12 : Int) =>
  R (.int .i64 (IntKind.i64.wrap (((v_8.n : Int)) - v_12))) h))))))))))))
def codec_Reader_Left.ann : Ann := (.seq .leaf (.seq (.seq .leaf (.cond (.seq .leaf .leaf) .leaf)) (.seq .leaf .leaf)))
theorem codec_Reader_Left.eq (r0 : Option Addr) (R : Value → Heap → Prop) (h : Heap) : codec_Reader_Left.body r0 R h = evFn Try.prog Try.f32 codec_Reader_Left.ann [(.pointer r0)] R h := by kernel_rfl
theorem codec_Reader_Left.calls {r0 : Option Addr} {R : Value → Heap → Prop} {h : Heap} (H : codec_Reader_Left.body r0 R h) : HC Try.prog F.codec_Reader_Left #[(.pointer r0)] R h :=
  evFn_sound mixed Try.func32 (by kernel_rfl) (codec_Reader_Left.eq r0 R h ▸ H)

/-! (*zugzwang/codec.Reader).End -/
def codec_Reader_End.body (r0 : Option Addr) (R : Value → Heap → Prop) (h : Heap) : Prop :=
  joinW (fun (s_1 : Bool) (h : Heap) =>
  if s_1 = true then
  R (.int .i64 1) h
  else
  derefK r0 (fun (a_2 : Addr) =>
  fldK ((some a_2)) 0 (fun (a_3 : Addr) =>
  callK Try.prog .bool F.codec_state_sound #[(.pointer ((some a_3)))] (fun (v_4 : Bool) (h : Heap) =>
  if (!v_4) = true then
  R (.int .i64 4) h
  else
  callK Try.prog (.int .i64) F.codec_Reader_Left #[(.pointer r0)] (fun (v_5 : Int) (h : Heap) =>
  if (decide (v_5 > 0)) = true then
  R (.int .i64 4) h
  else
  R (.int .i64 0) h) h) h)))
  (fun J_6 =>
  if r0.isNone = true then
  J_6 true h
  else
  derefK r0 (fun (a_7 : Addr) =>
  fldK ((some a_7)) 0 (fun (a_8 : Addr) =>
  fldK ((some a_8)) 0 (fun (a_9 : Addr) =>
  loadK .bool h ((some a_9)) (fun (v_10 : Bool) =>
  J_6 (!v_10) h)))))
def codec_Reader_End.ann : Ann := (.seq .leaf (.seq (.block (.join [(3, .bool)] .leaf (.cond (.seq .leaf .leaf) (.seq .leaf (.cond (.seq .leaf .leaf) .leaf))))) (.seq .leaf .leaf)))
theorem codec_Reader_End.eq (r0 : Option Addr) (R : Value → Heap → Prop) (h : Heap) : codec_Reader_End.body r0 R h = evFn Try.prog Try.f31 codec_Reader_End.ann [(.pointer r0)] R h := by kernel_rfl
theorem codec_Reader_End.calls {r0 : Option Addr} {R : Value → Heap → Prop} {h : Heap} (H : codec_Reader_End.body r0 R h) : HC Try.prog F.codec_Reader_End #[(.pointer r0)] R h :=
  evFn_sound mixed Try.func31 (by kernel_rfl) (codec_Reader_End.eq r0 R h ▸ H)

/-! (*zugzwang/codec.place).has -/
def codec_place_has.body (p0 : Option Addr) (n1 : Int) (R : Value → Heap → Prop) (h : Heap) : Prop :=
  derefK p0 (fun (a_1 : Addr) =>
  fldK ((some a_1)) 0 (fun (a_2 : Addr) =>
  loadK .slice h ((some a_2)) (fun (v_3 : Sl) =>
  derefK p0 (fun (a_4 : Addr) =>
  fldK ((some a_4)) 1 (fun (a_5 : Addr) =>
  loadK (.int .i64) h ((some a_5)) (fun (v_6 : Int) =>
  R (.bool (decide (n1 ≤ (IntKind.i64.wrap (((v_3.n : Int)) - v_6))))) h))))))
def codec_place_has.ann : Ann := (.seq .leaf (.seq .leaf .leaf))
theorem codec_place_has.eq (p0 : Option Addr) (n1 : Int) (R : Value → Heap → Prop) (h : Heap) : codec_place_has.body p0 n1 R h = evFn Try.prog Try.f59 codec_place_has.ann [(.pointer p0), (.int .i64 n1)] R h := by kernel_rfl
theorem codec_place_has.calls {p0 : Option Addr} {n1 : Int} {R : Value → Heap → Prop} {h : Heap} (H : codec_place_has.body p0 n1 R h) : HC Try.prog F.codec_place_has #[(.pointer p0), (.int .i64 n1)] R h :=
  evFn_sound mixed Try.func59 (by kernel_rfl) (codec_place_has.eq p0 n1 R h ▸ H)

/-! (*zugzwang/codec.place).take -/
def codec_place_take.body (p0 : Option Addr) (n1 : Int) (R : Value → Heap → Prop) (h : Heap) : Prop :=
  derefK p0 (fun (a_1 : Addr) =>
  fldK ((some a_1)) 1 (fun (a_2 : Addr) =>
  loadK (.int .i64) h ((some a_2)) (fun (v_3 : Int) =>
  derefK p0 (fun (a_4 : Addr) =>
  fldK ((some a_4)) 1 (fun (a_5 : Addr) =>
  storeK h ((some a_5)) (.int .i64 (IntKind.i64.wrap (v_3 + n1))) (fun (h : Heap) =>
  derefK p0 (fun (a_6 : Addr) =>
  fldK ((some a_6)) 0 (fun (a_7 : Addr) =>
  loadK .slice h ((some a_7)) (fun (v_8 : Sl) =>
  derefK p0 (fun (a_9 : Addr) =>
  fldK ((some a_9)) 1 (fun (a_10 : Addr) =>
  loadK (.int .i64) h ((some a_10)) (fun (v_11 : Int) =>
  derefK p0 (fun (a_12 : Addr) =>
  fldK ((some a_12)) 1 (fun (a_13 : Addr) =>
  loadK (.int .i64) h ((some a_13)) (fun (v_14 : Int) =>
  sliceK v_8 (some (IntKind.i64.wrap (v_11 - n1))) (some v_14) none (sizeOfT Try.prog T.uint8) (fun (v_15 : Sl) =>
  R (.slice v_15.a v_15.n v_15.c) h))))))))))))))))
def codec_place_take.ann : Ann := (.seq .leaf (.seq .leaf (.seq .leaf .leaf)))
theorem codec_place_take.eq (p0 : Option Addr) (n1 : Int) (R : Value → Heap → Prop) (h : Heap) : codec_place_take.body p0 n1 R h = evFn Try.prog Try.f60 codec_place_take.ann [(.pointer p0), (.int .i64 n1)] R h := by kernel_rfl
theorem codec_place_take.calls {p0 : Option Addr} {n1 : Int} {R : Value → Heap → Prop} {h : Heap} (H : codec_place_take.body p0 n1 R h) : HC Try.prog F.codec_place_take #[(.pointer p0), (.int .i64 n1)] R h :=
  evFn_sound mixed Try.func60 (by kernel_rfl) (codec_place_take.eq p0 n1 R h ▸ H)

/-! (*zugzwang/codec.Reader).next -/
def codec_Reader_next.body (r0 : Option Addr) (n1 : Int) (R : Value → Heap → Prop) (h : Heap) : Prop :=
  if r0.isNone = true then
  R (.slice none 0 0) h
  else
  derefK r0 (fun (a_1 : Addr) =>
  fldK ((some a_1)) 0 (fun (a_2 : Addr) =>
  fldK ((some a_2)) 0 (fun (a_3 : Addr) =>
  loadK .bool h ((some a_3)) (fun (v_4 : Bool) =>
  if (!v_4) = true then
  R (.slice none 0 0) h
  else
  joinW (fun (s_5 : Unit) (h : Heap) =>
  derefK r0 (fun (a_6 : Addr) =>
  fldK ((some a_6)) 0 (fun (a_7 : Addr) =>
  callK Try.prog .bool F.codec_state_sound #[(.pointer ((some a_7)))] (fun (v_8 : Bool) (h : Heap) =>
  if (!v_8) = true then
  R (.slice none 0 0) h
  else
  derefK r0 (fun (a_9 : Addr) =>
  fldK ((some a_9)) 2 (fun (a_10 : Addr) =>
  callK Try.prog .slice F.codec_place_take #[(.pointer ((some a_10))), (.int .i64 n1)] (fun (v_11 : Sl) (h : Heap) =>
  R (.slice v_11.a v_11.n v_11.c) h) h))) h)))
  (fun J_12 =>
  joinW (fun (s_13 : Bool) (h : Heap) =>
  if s_13 = true then
  derefK r0 (fun (a_14 : Addr) =>
  fldK ((some a_14)) 0 (fun (a_15 : Addr) =>
  callK Try.prog (.int .i64) F.codec_state_spoil #[(.pointer ((some a_15))), (.int .i64 4)] (fun (v_16 : Int) (h : Heap) =>
  J_12 () h) h))
  else
  J_12 () h)
  (fun J_17 =>
  derefK r0 (fun (a_18 : Addr) =>
  fldK ((some a_18)) 0 (fun (a_19 : Addr) =>
  callK Try.prog .bool F.codec_state_sound #[(.pointer ((some a_19)))] (fun (v_20 : Bool) (h : Heap) =>
  if v_20 = true then
  derefK r0 (fun (a_21 : Addr) =>
  fldK ((some a_21)) 2 (fun (a_22 : Addr) =>
  callK Try.prog .bool F.codec_place_has #[(.pointer ((some a_22))), (.int .i64 n1)] (fun (v_23 : Bool) (h : Heap) =>
  J_17 (!v_23) h) h))
  else
  J_17 false h) h))))))))
def codec_Reader_next.ann : Ann := (.seq .leaf (.seq (.seq .leaf (.cond (.seq .leaf .leaf) .leaf)) (.join [] (.join [(26, .bool)] .leaf (.cond .leaf .leaf)) (.seq (.seq .leaf (.cond (.seq .leaf .leaf) .leaf)) (.seq .leaf .leaf)))))
theorem codec_Reader_next.eq (r0 : Option Addr) (n1 : Int) (R : Value → Heap → Prop) (h : Heap) : codec_Reader_next.body r0 n1 R h = evFn Try.prog Try.f55 codec_Reader_next.ann [(.pointer r0), (.int .i64 n1)] R h := by kernel_rfl
theorem codec_Reader_next.calls {r0 : Option Addr} {n1 : Int} {R : Value → Heap → Prop} {h : Heap} (H : codec_Reader_next.body r0 n1 R h) : HC Try.prog F.codec_Reader_next #[(.pointer r0), (.int .i64 n1)] R h :=
  evFn_sound mixed Try.func55 (by kernel_rfl) (codec_Reader_next.eq r0 n1 R h ▸ H)

/-! (*zugzwang/codec.Reader).Byte -/
def codec_Reader_Byte.body (r0 : Option Addr) (R : Value → Heap → Prop) (h : Heap) : Prop :=
  callK Try.prog .slice F.codec_Reader_next #[(.pointer r0), (.int .i64 1)] (fun (v_1 : Sl) (h : Heap) =>
  loopW (fun X_3 (s_2 : Int × Int) (h : Heap) =>
  if (decide (s_2.2 < ((v_1.n : Int)))) = true then
  idxK v_1 s_2.2 (sizeOfT Try.prog T.uint8) (fun (a_4 : Addr) =>
  loadK (.int .u8) h ((some a_4)) (fun (v_5 : Int) =>
  X_3 (IntKind.i64.wrap v_5, IntKind.i64.wrap (s_2.2 + 1)) h))
  else
  R (.int .i64 s_2.1) h) (0, 0) h) h
def codec_Reader_Byte.ann : Ann := (.seq .leaf (.seq (.seq .leaf (.block (.loop [(2, (.int .i64)), (8, (.int .i64))] (.seq .leaf (.seq (.cond .leaf .leaf) (.seq (.block (.seq .leaf .leaf)) .leaf)))))) (.seq .leaf .leaf)))
theorem codec_Reader_Byte.eq (r0 : Option Addr) (R : Value → Heap → Prop) (h : Heap) : codec_Reader_Byte.body r0 R h = evFn Try.prog Try.f33 codec_Reader_Byte.ann [(.pointer r0)] R h := by kernel_rfl
theorem codec_Reader_Byte.calls {r0 : Option Addr} {R : Value → Heap → Prop} {h : Heap} (H : codec_Reader_Byte.body r0 R h) : HC Try.prog F.codec_Reader_Byte #[(.pointer r0)] R h :=
  evFn_sound mixed Try.func33 (by kernel_rfl) (codec_Reader_Byte.eq r0 R h ▸ H)

/-! (*zugzwang/codec.Reader).Number -/
def codec_Reader_Number.body (r0 : Option Addr) (R : Value → Heap → Prop) (h : Heap) : Prop :=
  callK Try.prog .slice F.codec_Reader_next #[(.pointer r0), (.int .i64 4)] (fun (v_1 : Sl) (h : Heap) =>
  loopW (fun X_3 (s_2 : Int × Int) (h : Heap) =>
  if (decide (s_2.2 < ((v_1.n : Int)))) = true then
  idxK v_1 s_2.2 (sizeOfT Try.prog T.uint8) (fun (a_4 : Addr) =>
  loadK (.int .u8) h ((some a_4)) (fun (v_5 : Int) =>
  shiftK 8
  (X_3 (IntKind.i64.wrap (BitVec.ofInt (IntKind.bits .i64) (IntKind.i64.wrap (s_2.1 * 2 ^ min (Int.toNat 8) (IntKind.bits .i64))) ||| BitVec.ofInt (IntKind.bits .i64) (IntKind.i64.wrap v_5)).toNat, IntKind.i64.wrap (s_2.2 + 1)) h)))
  else
  R (.int .i64 s_2.1) h) (0, 0) h) h
def codec_Reader_Number.ann : Ann := (.seq .leaf (.seq (.seq .leaf (.block (.loop [(2, (.int .i64)), (8, (.int .i64))] (.seq .leaf (.seq (.cond .leaf .leaf) (.seq (.block (.seq .leaf .leaf)) .leaf)))))) (.seq .leaf .leaf)))
theorem codec_Reader_Number.eq (r0 : Option Addr) (R : Value → Heap → Prop) (h : Heap) : codec_Reader_Number.body r0 R h = evFn Try.prog Try.f34 codec_Reader_Number.ann [(.pointer r0)] R h := by kernel_rfl
theorem codec_Reader_Number.calls {r0 : Option Addr} {R : Value → Heap → Prop} {h : Heap} (H : codec_Reader_Number.body r0 R h) : HC Try.prog F.codec_Reader_Number #[(.pointer r0)] R h :=
  evFn_sound mixed Try.func34 (by kernel_rfl) (codec_Reader_Number.eq r0 R h ▸ H)

/-! (*zugzwang/codec.Reader).Run -/
def codec_Reader_Run.body (r0 : Option Addr) (R : Value → Heap → Prop) (h : Heap) : Prop :=
  if r0.isNone = true then
  R (.slice none 0 0) h
  else
  derefK r0 (fun (a_1 : Addr) =>
  fldK ((some a_1)) 0 (fun (a_2 : Addr) =>
  fldK ((some a_2)) 0 (fun (a_3 : Addr) =>
  loadK .bool h ((some a_3)) (fun (v_4 : Bool) =>
  if (!v_4) = true then
  R (.slice none 0 0) h
  else
  derefK r0 (fun (a_5 : Addr) =>
  fldK ((some a_5)) 2 (fun (a_6 : Addr) =>
  fldK ((some a_6)) 1 (fun (a_7 : Addr) =>
  loadK (.int .i64) h ((some a_7)) (fun (v_8 : Int) =>
  callK Try.prog (.int .i64) F.codec_Reader_Number #[(.pointer r0)] (fun (v_9 : Int) (h : Heap) =>
  callK Try.prog .slice F.codec_Reader_next #[(.pointer r0), (.int .i64 v_9)] (fun (v_10 : Sl) (h : Heap) =>
  derefK r0 (fun (a_11 : Addr) =>
  fldK ((some a_11)) 0 (fun (a_12 : Addr) =>
  callK Try.prog .bool F.codec_state_sound #[(.pointer ((some a_12)))] (fun (v_13 : Bool) (h : Heap) =>
  if (!v_13) = true then
  derefK r0 (fun (a_14 : Addr) =>
  fldK ((some a_14)) 2 (fun (a_15 : Addr) =>
  fldK ((some a_15)) 1 (fun (a_16 : Addr) =>
  storeK h ((some a_16)) (.int .i64 v_8) (fun (h : Heap) =>
  R (.slice none 0 0) h))))
  else
  callK Try.prog .slice F.slices_Clone_byte_byte #[(.slice v_10.a v_10.n v_10.c)] (fun (v_17 : Sl) (h : Heap) =>
  R (.slice v_17.a v_17.n v_17.c) h) h) h))) h) h))))))))
def codec_Reader_Run.ann : Ann := (.seq .leaf (.seq (.seq .leaf (.cond (.seq .leaf .leaf) .leaf)) (.seq .leaf (.seq .leaf (.seq (.seq .leaf (.cond (.seq .leaf (.seq .leaf .leaf)) .leaf)) (.seq .leaf .leaf))))))
theorem codec_Reader_Run.eq (r0 : Option Addr) (R : Value → Heap → Prop) (h : Heap) : codec_Reader_Run.body r0 R h = evFn Try.prog Try.f36 codec_Reader_Run.ann [(.pointer r0)] R h := by kernel_rfl
theorem codec_Reader_Run.calls {r0 : Option Addr} {R : Value → Heap → Prop} {h : Heap} (H : codec_Reader_Run.body r0 R h) : HC Try.prog F.codec_Reader_Run #[(.pointer r0)] R h :=
  evFn_sound mixed Try.func36 (by kernel_rfl) (codec_Reader_Run.eq r0 R h ▸ H)

/-! zugzwang/zugzwanglaw17.awake -/
def law17_awake.body  (R : Value → Heap → Prop) (h : Heap) : Prop :=
  callK Try.prog .ptr F.codec_New #[] (fun (v_1 : Option Addr) (h : Heap) =>
  newSlK h 1 #[(.int .i64 7)] T.int (fun (v_2 : Sl) (h : Heap) =>
  callK Try.prog (.int .i64) F.codec_Writer_Byte #[(.pointer v_1), (.slice v_2.a v_2.n v_2.c)] (fun (v_3 : Int) (h : Heap) =>
  newSlK h 1 #[(.int .i64 258)] T.int (fun (v_4 : Sl) (h : Heap) =>
  callK Try.prog (.int .i64) F.codec_Writer_Number #[(.pointer v_1), (.slice v_4.a v_4.n v_4.c)] (fun (v_5 : Int) (h : Heap) =>
  newSlK h 2 #[(.int .u8 1), (.int .u8 2)] T.uint8 (fun (v_6 : Sl) (h : Heap) =>
  newSlK h 1 #[(.slice v_6.a v_6.n v_6.c)] T.sl_uint8 (fun (v_7 : Sl) (h : Heap) =>
  callK Try.prog (.int .i64) F.codec_Writer_Run #[(.pointer v_1), (.slice v_7.a v_7.n v_7.c)] (fun (v_8 : Int) (h : Heap) =>
  callK Try.prog (Kd.pair .slice (.int .i64)) F.codec_Writer_Out #[(.pointer v_1)] (fun (v_9 : Sl × Int) (h : Heap) =>
  callK Try.prog .ptr F.codec_Read #[(.slice v_9.1.a v_9.1.n v_9.1.c)] (fun (v_10 : Option Addr) (h : Heap) =>
  if (v_3 == 0) = true then
  if (v_5 == 0) = true then
  if (v_8 == 0) = true then
  if (v_9.2 == 0) = true then
  newSlK h 11 #[(.int .u8 7), (.int .u8 0), (.int .u8 0), (.int .u8 1), (.int .u8 2), (.int .u8 0), (.int .u8 0), (.int .u8 0), (.int .u8 2), (.int .u8 1), (.int .u8 2)] T.uint8 (fun (v_11 : Sl) (h : Heap) =>
  callK Try.prog .bool F.kit_SameBytes #[(.slice v_9.1.a v_9.1.n v_9.1.c), (.slice v_11.a v_11.n v_11.c)] (fun (v_12 : Bool) (h : Heap) =>
  if v_12 = true then
  callK Try.prog (.int .i64) F.codec_Reader_Byte #[(.pointer v_10)] (fun (v_13 : Int) (h : Heap) =>
  if (v_13 == 7) = true then
  callK Try.prog (.int .i64) F.codec_Reader_Number #[(.pointer v_10)] (fun (v_14 : Int) (h : Heap) =>
  if (v_14 == 258) = true then
  callK Try.prog (.int .i64) F.codec_Reader_Left #[(.pointer v_10)] (fun (v_15 : Int) (h : Heap) =>
  if (v_15 == 6) = true then
  callK Try.prog .slice F.codec_Reader_Run #[(.pointer v_10)] (fun (v_16 : Sl) (h : Heap) =>
  newSlK h 2 #[(.int .u8 1), (.int .u8 2)] T.uint8 (fun (v_17 : Sl) (h : Heap) =>
  callK Try.prog .bool F.kit_SameBytes #[(.slice v_16.a v_16.n v_16.c), (.slice v_17.a v_17.n v_17.c)] (fun (v_18 : Bool) (h : Heap) =>
  if v_18 = true then
  callK Try.prog (.int .i64) F.codec_Reader_End #[(.pointer v_10)] (fun (v_19 : Int) (h : Heap) =>
  if (v_19 == 0) = true then
  callK Try.prog (.int .i64) F.codec_Reader_Byte #[(.pointer v_10)] (fun (v_20 : Int) (h : Heap) =>
  if (v_20 == 0) = true then
  callK Try.prog (.int .i64) F.codec_Reader_End #[(.pointer v_10)] (fun (v_21 : Int) (h : Heap) =>
  R (.bool (v_21 == 4)) h) h
  else
  R (.bool false) h) h
  else
  R (.bool false) h) h
  else
  R (.bool false) h) h)) h
  else
  R (.bool false) h) h
  else
  R (.bool false) h) h
  else
  R (.bool false) h) h
  else
  R (.bool false) h) h)
  else
  R (.bool false) h
  else
  R (.bool false) h
  else
  R (.bool false) h
  else
  R (.bool false) h) h) h) h))) h)) h)) h
def law17_awake.ann : Ann := (.seq .leaf (.seq .leaf (.seq .leaf (.seq .leaf (.seq .leaf (.seq .leaf .leaf))))))
theorem law17_awake.eq  (R : Value → Heap → Prop) (h : Heap) : law17_awake.body  R h = evFn Try.prog Try.f7 law17_awake.ann [] R h := by kernel_rfl
theorem law17_awake.calls  {R : Value → Heap → Prop} {h : Heap} (H : law17_awake.body  R h) : HC Try.prog F.law17_awake #[] R h :=
  evFn_sound mixed Try.func7 (by kernel_rfl) (law17_awake.eq  R h ▸ H)

/-! zugzwang/zugzwangkit.mark -/
def kit_mark.body (k0 : Int) (i1 : Int) (R : Value → Heap → Prop) (h : Heap) : Prop :=
  R (.int .i64 (IntKind.i64.wrap ((IntKind.i64.wrap (1000003 * (IntKind.i64.wrap (k0 + 7)))) + i1))) h
def kit_mark.ann : Ann := (.seq .leaf (.seq .leaf .leaf))
theorem kit_mark.eq (k0 : Int) (i1 : Int) (R : Value → Heap → Prop) (h : Heap) : kit_mark.body k0 i1 R h = evFn Try.prog Try.f37 kit_mark.ann [(.int .i64 k0), (.int .i64 i1)] R h := by kernel_rfl
theorem kit_mark.calls {k0 : Int} {i1 : Int} {R : Value → Heap → Prop} {h : Heap} (H : kit_mark.body k0 i1 R h) : HC Try.prog F.kit_mark #[(.int .i64 k0), (.int .i64 i1)] R h :=
  evFn_sound mixed Try.func37 (by kernel_rfl) (kit_mark.eq k0 i1 R h ▸ H)

/-! zugzwang/zugzwangkit.LentInts -/
def kit_LentInts.body (l0 : Sl) (R : Value → Heap → Prop) (h : Heap) : Prop :=
  opK Try.prog .slice (Instr.makeSlice T.sl_int (.int .i64 0) (.int .i64 (IntKind.i64.wrap (((l0.n : Int)) + 12)))) (fun (v_1 : Sl) (h : Heap) =>
  opK Try.prog .slice (Builtin.append_ #[T.sl_int, T.sl_int] T.sl_int #[(.slice v_1.a v_1.n v_1.c), (.slice l0.a l0.n l0.c)]) (fun (v_2 : Sl) (h : Heap) =>
  loopW (fun X_4 (s_3 : Sl × Int) (h : Heap) =>
  if (decide (s_3.2 < 12)) = true then
  callK Try.prog (.int .i64) F.kit_mark #[(.int .i64 1), (.int .i64 s_3.2)] (fun (v_5 : Int) (h : Heap) =>
  newSlK h 1 #[(.int .i64 v_5)] T.int (fun (v_6 : Sl) (h : Heap) =>
  opK Try.prog .slice (Builtin.append_ #[T.sl_int, T.sl_int] T.sl_int #[(.slice s_3.1.a s_3.1.n s_3.1.c), (.slice v_6.a v_6.n v_6.c)]) (fun (v_7 : Sl) (h : Heap) =>
  X_4 (v_7, IntKind.i64.wrap (s_3.2 + 1)) h) h)) h
  else
  sliceK s_3.1 none (some ((l0.n : Int))) none (sizeOfT Try.prog T.int) (fun (v_8 : Sl) =>
  R (.slice v_8.a v_8.n v_8.c) h)) (v_2, 0) h) h) h
def kit_LentInts.ann : Ann := (.seq .leaf (.seq .leaf (.seq .leaf (.seq (.seq .leaf (.block (.loop [(3, .slice), (4, (.int .i64))] (.seq (.seq .leaf (.cond .leaf .leaf)) (.seq (.block .leaf) .leaf))))) (.seq .leaf .leaf)))))
theorem kit_LentInts.eq (l0 : Sl) (R : Value → Heap → Prop) (h : Heap) : kit_LentInts.body l0 R h = evFn Try.prog Try.f9 kit_LentInts.ann [(.slice l0.a l0.n l0.c)] R h := by kernel_rfl
theorem kit_LentInts.calls {l0 : Sl} {R : Value → Heap → Prop} {h : Heap} (H : kit_LentInts.body l0 R h) : HC Try.prog F.kit_LentInts #[(.slice l0.a l0.n l0.c)] R h :=
  evFn_sound mixed Try.func9 (by kernel_rfl) (kit_LentInts.eq l0 R h ▸ H)

/-! zugzwang/zugzwangkit.markTag -/
def kit_markTag.body (k0 : Int) (i1 : Int) (R : Value → Heap → Prop) (h : Heap) : Prop :=
  newK h (zerosOf Try.prog T.api_Tag) T.api_Tag (fun (v_1 : Option Addr) (h : Heap) =>
  callK Try.prog (.int .i64) F.kit_mark #[(.int .i64 k0), (.int .i64 i1)] (fun (v_2 : Int) (h : Heap) =>
  callK Try.prog (.int .i64) F.kit_mark #[(.int .i64 k0), (.int .i64 i1)] (fun (v_3 : Int) (h : Heap) =>
  shiftK 8
  (callK Try.prog (.int .i64) F.kit_mark #[(.int .i64 k0), (.int .i64 i1)] (fun (v_4 : Int) (h : Heap) =>
  shiftK 16
  (buildK Try.prog (Instr.build T.api_Tag #[(0, (.int .u8 (IntKind.u8.wrap v_2))), (1, (.int .u8 (IntKind.u8.wrap (Int.fdiv v_3 (2 ^ min (Int.toNat 8) (IntKind.bits .i64)))))), (2, (.int .u8 (IntKind.u8.wrap (Int.fdiv v_4 (2 ^ min (Int.toNat 16) (IntKind.bits .i64))))))]) (fun (v_5 : Array Value) =>
  storeAggK (sizeOfT Try.prog T.api_Tag) h v_1 v_5 (fun (h : Heap) =>
  quietK Try.prog .agg (Instr.loadAt T.api_Tag (.pointer v_1)) (fun (r_6 : Array Value) =>
  R (.agg r_6) h) h)))) h)) h) h)
def kit_markTag.ann : Ann := (.seq .leaf (.seq .leaf .leaf))
theorem kit_markTag.eq (k0 : Int) (i1 : Int) (R : Value → Heap → Prop) (h : Heap) : kit_markTag.body k0 i1 R h = evFn Try.prog Try.f38 kit_markTag.ann [(.int .i64 k0), (.int .i64 i1)] R h := by kernel_rfl
theorem kit_markTag.calls {k0 : Int} {i1 : Int} {R : Value → Heap → Prop} {h : Heap} (H : kit_markTag.body k0 i1 R h) : HC Try.prog F.kit_markTag #[(.int .i64 k0), (.int .i64 i1)] R h :=
  evFn_sound mixed Try.func38 (by kernel_rfl) (kit_markTag.eq k0 i1 R h ▸ H)

/-! zugzwang/zugzwangkit.LentTags -/
def kit_LentTags.body (l0 : Sl) (R : Value → Heap → Prop) (h : Heap) : Prop :=
  opK Try.prog .slice (Instr.makeSlice T.sl_api_Tag (.int .i64 0) (.int .i64 (IntKind.i64.wrap (((l0.n : Int)) + 12)))) (fun (v_1 : Sl) (h : Heap) =>
  opK Try.prog .slice (Builtin.append_ #[T.sl_api_Tag, T.sl_api_Tag] T.sl_api_Tag #[(.slice v_1.a v_1.n v_1.c), (.slice l0.a l0.n l0.c)]) (fun (v_2 : Sl) (h : Heap) =>
  loopW (fun X_4 (s_3 : Sl × Int) (h : Heap) =>
  if (decide (s_3.2 < 12)) = true then
  callK Try.prog .agg F.kit_markTag #[(.int .i64 1), (.int .i64 s_3.2)] (fun (v_5 : Array Value) (h : Heap) =>
  opK Try.prog .slice (Instr.buildSlice T.sl_api_Tag 1 #[(0, (.agg v_5))]) (fun (v_6 : Sl) (h : Heap) =>
  opK Try.prog .slice (Builtin.append_ #[T.sl_api_Tag, T.sl_api_Tag] T.sl_api_Tag #[(.slice s_3.1.a s_3.1.n s_3.1.c), (.slice v_6.a v_6.n v_6.c)]) (fun (v_7 : Sl) (h : Heap) =>
  X_4 (v_7, IntKind.i64.wrap (s_3.2 + 1)) h) h) h) h
  else
  sliceK s_3.1 none (some ((l0.n : Int))) none (sizeOfT Try.prog T.api_Tag) (fun (v_8 : Sl) =>
  R (.slice v_8.a v_8.n v_8.c) h)) (v_2, 0) h) h) h
def kit_LentTags.ann : Ann := (.seq .leaf (.seq .leaf (.seq .leaf (.seq (.seq .leaf (.block (.loop [(3, .slice), (4, (.int .i64))] (.seq (.seq .leaf (.cond .leaf .leaf)) (.seq (.block .leaf) .leaf))))) (.seq .leaf .leaf)))))
theorem kit_LentTags.eq (l0 : Sl) (R : Value → Heap → Prop) (h : Heap) : kit_LentTags.body l0 R h = evFn Try.prog Try.f10 kit_LentTags.ann [(.slice l0.a l0.n l0.c)] R h := by kernel_rfl
theorem kit_LentTags.calls {l0 : Sl} {R : Value → Heap → Prop} {h : Heap} (H : kit_LentTags.body l0 R h) : HC Try.prog F.kit_LentTags #[(.slice l0.a l0.n l0.c)] R h :=
  evFn_sound mixed Try.func10 (by kernel_rfl) (kit_LentTags.eq l0 R h ▸ H)

/-! zugzwang/zugzwangkit.markByte -/
def kit_markByte.body (k0 : Int) (i1 : Int) (R : Value → Heap → Prop) (h : Heap) : Prop :=
  callK Try.prog (.int .i64) F.kit_mark #[(.int .i64 k0), (.int .i64 i1)] (fun (v_1 : Int) (h : Heap) =>
  shiftK 56
  (R (.int .u8 (IntKind.u8.wrap (Int.fdiv (IntKind.u64.wrap ((IntKind.u64.wrap v_1) * 11400714819323198485)) (2 ^ min (Int.toNat 56) (IntKind.bits .u64))))) h)) h
def kit_markByte.ann : Ann := (.seq .leaf (.seq .leaf .leaf))
theorem kit_markByte.eq (k0 : Int) (i1 : Int) (R : Value → Heap → Prop) (h : Heap) : kit_markByte.body k0 i1 R h = evFn Try.prog Try.f54 kit_markByte.ann [(.int .i64 k0), (.int .i64 i1)] R h := by kernel_rfl
theorem kit_markByte.calls {k0 : Int} {i1 : Int} {R : Value → Heap → Prop} {h : Heap} (H : kit_markByte.body k0 i1 R h) : HC Try.prog F.kit_markByte #[(.int .i64 k0), (.int .i64 i1)] R h :=
  evFn_sound mixed Try.func54 (by kernel_rfl) (kit_markByte.eq k0 i1 R h ▸ H)

/-! zugzwang/zugzwangkit.LentBytes -/
def kit_LentBytes.body (l0 : Sl) (R : Value → Heap → Prop) (h : Heap) : Prop :=
  opK Try.prog .slice (Instr.makeSlice T.sl_uint8 (.int .i64 0) (.int .i64 (IntKind.i64.wrap (((l0.n : Int)) + 12)))) (fun (v_1 : Sl) (h : Heap) =>
  opK Try.prog .slice (Builtin.append_ #[T.sl_uint8, T.sl_uint8] T.sl_uint8 #[(.slice v_1.a v_1.n v_1.c), (.slice l0.a l0.n l0.c)]) (fun (v_2 : Sl) (h : Heap) =>
  loopW (fun X_4 (s_3 : Sl × Int) (h : Heap) =>
  if (decide (s_3.2 < 12)) = true then
  callK Try.prog (.int .u8) F.kit_markByte #[(.int .i64 1), (.int .i64 s_3.2)] (fun (v_5 : Int) (h : Heap) =>
  newSlK h 1 #[(.int .u8 v_5)] T.uint8 (fun (v_6 : Sl) (h : Heap) =>
  opK Try.prog .slice (Builtin.append_ #[T.sl_uint8, T.sl_uint8] T.sl_uint8 #[(.slice s_3.1.a s_3.1.n s_3.1.c), (.slice v_6.a v_6.n v_6.c)]) (fun (v_7 : Sl) (h : Heap) =>
  X_4 (v_7, IntKind.i64.wrap (s_3.2 + 1)) h) h)) h
  else
  sliceK s_3.1 none (some ((l0.n : Int))) none (sizeOfT Try.prog T.uint8) (fun (v_8 : Sl) =>
  R (.slice v_8.a v_8.n v_8.c) h)) (v_2, 0) h) h) h
def kit_LentBytes.ann : Ann := (.seq .leaf (.seq .leaf (.seq .leaf (.seq (.seq .leaf (.block (.loop [(3, .slice), (4, (.int .i64))] (.seq (.seq .leaf (.cond .leaf .leaf)) (.seq (.block .leaf) .leaf))))) (.seq .leaf .leaf)))))
theorem kit_LentBytes.eq (l0 : Sl) (R : Value → Heap → Prop) (h : Heap) : kit_LentBytes.body l0 R h = evFn Try.prog Try.f39 kit_LentBytes.ann [(.slice l0.a l0.n l0.c)] R h := by kernel_rfl
theorem kit_LentBytes.calls {l0 : Sl} {R : Value → Heap → Prop} {h : Heap} (H : kit_LentBytes.body l0 R h) : HC Try.prog F.kit_LentBytes #[(.slice l0.a l0.n l0.c)] R h :=
  evFn_sound mixed Try.func39 (by kernel_rfl) (kit_LentBytes.eq l0 R h ▸ H)

/-! zugzwang/zugzwangkit.LentByteRows -/
def kit_LentByteRows.body (l0 : Sl) (R : Value → Heap → Prop) (h : Heap) : Prop :=
  loopW (fun X_2 (s_1 : Sl × Int) (h : Heap) =>
  if (decide (s_1.2 < ((l0.n : Int)))) = true then
  idxK l0 s_1.2 (sizeOfT Try.prog T.sl_uint8) (fun (a_3 : Addr) =>
  loadK .slice h ((some a_3)) (fun (v_4 : Sl) =>
  callK Try.prog .slice F.kit_LentBytes #[(.slice v_4.a v_4.n v_4.c)] (fun (v_5 : Sl) (h : Heap) =>
  newSlK h 1 #[(.slice v_5.a v_5.n v_5.c)] T.sl_uint8 (fun (v_6 : Sl) (h : Heap) =>
  opK Try.prog .slice (Builtin.append_ #[T.sl_sl_uint8, T.sl_sl_uint8] T.sl_sl_uint8 #[(.slice s_1.1.a s_1.1.n s_1.1.c), (.slice v_6.a v_6.n v_6.c)]) (fun (v_7 : Sl) (h : Heap) =>
  X_2 (v_7, IntKind.i64.wrap (s_1.2 + 1)) h) h)) h))
  else
  R (.slice s_1.1.a s_1.1.n s_1.1.c) h) (⟨none, 0, 0⟩, 0) h
def kit_LentByteRows.ann : Ann := (.seq .leaf (.seq .leaf (.seq (.seq .leaf (.block (.loop [(3, .slice), (4, (.int .i64))] (.seq (.seq .leaf (.cond .leaf .leaf)) (.seq (.block .leaf) .leaf))))) (.seq .leaf .leaf))))
theorem kit_LentByteRows.eq (l0 : Sl) (R : Value → Heap → Prop) (h : Heap) : kit_LentByteRows.body l0 R h = evFn Try.prog Try.f11 kit_LentByteRows.ann [(.slice l0.a l0.n l0.c)] R h := by kernel_rfl
theorem kit_LentByteRows.calls {l0 : Sl} {R : Value → Heap → Prop} {h : Heap} (H : kit_LentByteRows.body l0 R h) : HC Try.prog F.kit_LentByteRows #[(.slice l0.a l0.n l0.c)] R h :=
  evFn_sound mixed Try.func11 (by kernel_rfl) (kit_LentByteRows.eq l0 R h ▸ H)

/-! zugzwang/zugzwangkit.Pick -/
def kit_Pick.body (x0 : Int) (n1 : Int) (R : Value → Heap → Prop) (h : Heap) : Prop :=
  if (decide (n1 < 1)) = true then
  R (.int .i64 0) h
  else
  divK n1
  (if (decide ((Int.tmod x0 n1) < 0)) = true then
  R (.int .i64 (IntKind.i64.wrap ((Int.tmod x0 n1) + n1))) h
  else
  R (.int .i64 (Int.tmod x0 n1)) h)
def kit_Pick.ann : Ann := (.seq .leaf (.seq (.seq .leaf (.cond (.seq .leaf .leaf) .leaf)) (.seq .leaf (.seq (.seq .leaf (.cond .leaf .leaf)) (.seq .leaf .leaf)))))
theorem kit_Pick.eq (x0 : Int) (n1 : Int) (R : Value → Heap → Prop) (h : Heap) : kit_Pick.body x0 n1 R h = evFn Try.prog Try.f12 kit_Pick.ann [(.int .i64 x0), (.int .i64 n1)] R h := by kernel_rfl
theorem kit_Pick.calls {x0 : Int} {n1 : Int} {R : Value → Heap → Prop} {h : Heap} (H : kit_Pick.body x0 n1 R h) : HC Try.prog F.kit_Pick #[(.int .i64 x0), (.int .i64 n1)] R h :=
  evFn_sound mixed Try.func12 (by kernel_rfl) (kit_Pick.eq x0 n1 R h ▸ H)

/-! (*zugzwang/zugzwangref17.Writer).put -/
def ref17_Writer_put.body (w0 : Option Addr) (b1 : Sl) (R : Value → Heap → Prop) (h : Heap) : Prop :=
  joinW (fun (s_1 : Unit) (h : Heap) =>
  derefK w0 (fun (a_2 : Addr) =>
  fldK ((some a_2)) 1 (fun (a_3 : Addr) =>
  loadK (.int .i64) h ((some a_3)) (fun (v_4 : Int) =>
  if (v_4 == 0) = true then
  derefK w0 (fun (a_5 : Addr) =>
  fldK ((some a_5)) 0 (fun (a_6 : Addr) =>
  loadK .slice h ((some a_6)) (fun (v_7 : Sl) =>
  opK Try.prog .slice (Builtin.append_ #[T.sl_uint8, T.sl_uint8] T.sl_uint8 #[(.slice v_7.a v_7.n v_7.c), (.slice b1.a b1.n b1.c)]) (fun (v_8 : Sl) (h : Heap) =>
  derefK w0 (fun (a_9 : Addr) =>
  fldK ((some a_9)) 0 (fun (a_10 : Addr) =>
  storeK h ((some a_10)) (.slice v_8.a v_8.n v_8.c) (fun (h : Heap) =>
  R (.tuple #[]) h)))) h)))
  else
  R (.tuple #[]) h))))
  (fun J_11 =>
  joinW (fun (s_12 : Bool) (h : Heap) =>
  if s_12 = true then
  derefK w0 (fun (a_13 : Addr) =>
  fldK ((some a_13)) 1 (fun (a_14 : Addr) =>
  storeK h ((some a_14)) (.int .i64 3) (fun (h : Heap) =>
  J_11 () h)))
  else
  J_11 () h)
  (fun J_15 =>
  derefK w0 (fun (a_16 : Addr) =>
  fldK ((some a_16)) 1 (fun (a_17 : Addr) =>
  loadK (.int .i64) h ((some a_17)) (fun (v_18 : Int) =>
  if (v_18 == 0) = true then
  derefK w0 (fun (a_19 : Addr) =>
  fldK ((some a_19)) 0 (fun (a_20 : Addr) =>
  loadK .slice h ((some a_20)) (fun (v_21 : Sl) =>
  J_15 (decide ((IntKind.i64.wrap (((v_21.n : Int)) + ((b1.n : Int)))) > 65536)) h)))
  else
  J_15 false h)))))
def ref17_Writer_put.ann : Ann := (.join [] (.join [(19, .bool)] .leaf (.cond .leaf .leaf)) (.seq .leaf (.cond .leaf .leaf)))
theorem ref17_Writer_put.eq (w0 : Option Addr) (b1 : Sl) (R : Value → Heap → Prop) (h : Heap) : ref17_Writer_put.body w0 b1 R h = evFn Try.prog Try.f43 ref17_Writer_put.ann [(.pointer w0), (.slice b1.a b1.n b1.c)] R h := by kernel_rfl
theorem ref17_Writer_put.calls {w0 : Option Addr} {b1 : Sl} {R : Value → Heap → Prop} {h : Heap} (H : ref17_Writer_put.body w0 b1 R h) : HC Try.prog F.ref17_Writer_put #[(.pointer w0), (.slice b1.a b1.n b1.c)] R h :=
  evFn_sound mixed Try.func43 (by kernel_rfl) (ref17_Writer_put.eq w0 b1 R h ▸ H)

/-! (*zugzwang/zugzwangref17.Writer).Byte -/
def ref17_Writer_Byte.body (w0 : Option Addr) (l1 : Sl) (R : Value → Heap → Prop) (h : Heap) : Prop :=
  loopW (fun X_2 (s_1 : Int) (h : Heap) =>
  if (decide (s_1 < ((l1.n : Int)))) = true then
  joinW (fun (s_3 : Unit) (h : Heap) =>
  idxK l1 s_1 (sizeOfT Try.prog T.int) (fun (a_4 : Addr) =>
  loadK (.int .i64) h ((some a_4)) (fun (v_5 : Int) =>
  newSlK h 1 #[(.int .u8 (IntKind.u8.wrap v_5))] T.uint8 (fun (v_6 : Sl) (h : Heap) =>
  callK Try.prog .unit F.ref17_Writer_put #[(.pointer w0), (.slice v_6.a v_6.n v_6.c)] (fun (v_7 : Unit) (h : Heap) =>
  X_2 (IntKind.i64.wrap (s_1 + 1)) h) h))))
  (fun J_8 =>
  joinW (fun (s_9 : Bool) (h : Heap) =>
  if s_9 = true then
  derefK w0 (fun (a_10 : Addr) =>
  fldK ((some a_10)) 1 (fun (a_11 : Addr) =>
  storeK h ((some a_11)) (.int .i64 2) (fun (h : Heap) =>
  J_8 () h)))
  else
  J_8 () h)
  (fun J_12 =>
  derefK w0 (fun (a_13 : Addr) =>
  fldK ((some a_13)) 1 (fun (a_14 : Addr) =>
  loadK (.int .i64) h ((some a_14)) (fun (v_15 : Int) =>
  if (v_15 == 0) = true then
  idxK l1 s_1 (sizeOfT Try.prog T.int) (fun (a_16 : Addr) =>
  loadK (.int .i64) h ((some a_16)) (fun (v_17 : Int) =>
  if (decide (v_17 < 0)) = true then
  J_12 true h
  else
  idxK l1 s_1 (sizeOfT Try.prog T.int) (fun (a_18 : Addr) =>
  loadK (.int .i64) h ((some a_18)) (fun (v_19 : Int) =>
  J_12 (decide (v_19 > 255)) h))))
  else
  J_12 false h)))))
  else
  derefK w0 (fun (a_20 : Addr) =>
  fldK ((some a_20)) 1 (fun (a_21 : Addr) =>
  loadK (.int .i64) h ((some a_21)) (fun (v_22 : Int) =>
  R (.int .i64 v_22) h)))) 0 h
def ref17_Writer_Byte.ann : Ann := (.seq .leaf (.seq (.seq .leaf (.block (.loop [(5, (.int .i64))] (.seq (.seq .leaf (.cond .leaf .leaf)) (.seq (.block (.join [] (.join [(30, .bool)] .leaf (.cond .leaf .leaf)) .leaf)) .leaf))))) (.seq .leaf .leaf)))
theorem ref17_Writer_Byte.eq (w0 : Option Addr) (l1 : Sl) (R : Value → Heap → Prop) (h : Heap) : ref17_Writer_Byte.body w0 l1 R h = evFn Try.prog Try.f14 ref17_Writer_Byte.ann [(.pointer w0), (.slice l1.a l1.n l1.c)] R h := by kernel_rfl
theorem ref17_Writer_Byte.calls {w0 : Option Addr} {l1 : Sl} {R : Value → Heap → Prop} {h : Heap} (H : ref17_Writer_Byte.body w0 l1 R h) : HC Try.prog F.ref17_Writer_Byte #[(.pointer w0), (.slice l1.a l1.n l1.c)] R h :=
  evFn_sound mixed Try.func14 (by kernel_rfl) (ref17_Writer_Byte.eq w0 l1 R h ▸ H)

/-! zugzwang/zugzwangref17.Four -/
def ref17_Four.body (n0 : Int) (R : Value → Heap → Prop) (h : Heap) : Prop :=
  shiftK 24
  (shiftK 16
  (shiftK 8
  (newSlK h 4 #[(.int .u8 (IntKind.u8.wrap (Int.fdiv n0 (2 ^ min (Int.toNat 24) (IntKind.bits .i64))))), (.int .u8 (IntKind.u8.wrap (Int.fdiv n0 (2 ^ min (Int.toNat 16) (IntKind.bits .i64))))), (.int .u8 (IntKind.u8.wrap (Int.fdiv n0 (2 ^ min (Int.toNat 8) (IntKind.bits .i64))))), (.int .u8 (IntKind.u8.wrap n0))] T.uint8 (fun (v_1 : Sl) (h : Heap) =>
  R (.slice v_1.a v_1.n v_1.c) h))))
def ref17_Four.ann : Ann := (.seq .leaf (.seq .leaf .leaf))
theorem ref17_Four.eq (n0 : Int) (R : Value → Heap → Prop) (h : Heap) : ref17_Four.body n0 R h = evFn Try.prog Try.f45 ref17_Four.ann [(.int .i64 n0)] R h := by kernel_rfl
theorem ref17_Four.calls {n0 : Int} {R : Value → Heap → Prop} {h : Heap} (H : ref17_Four.body n0 R h) : HC Try.prog F.ref17_Four #[(.int .i64 n0)] R h :=
  evFn_sound mixed Try.func45 (by kernel_rfl) (ref17_Four.eq n0 R h ▸ H)

/-! (*zugzwang/zugzwangref17.Writer).Number -/
def ref17_Writer_Number.body (w0 : Option Addr) (l1 : Sl) (R : Value → Heap → Prop) (h : Heap) : Prop :=
  loopW (fun X_2 (s_1 : Int) (h : Heap) =>
  if (decide (s_1 < ((l1.n : Int)))) = true then
  joinW (fun (s_3 : Unit) (h : Heap) =>
  idxK l1 s_1 (sizeOfT Try.prog T.int) (fun (a_4 : Addr) =>
  loadK (.int .i64) h ((some a_4)) (fun (v_5 : Int) =>
  callK Try.prog .slice F.ref17_Four #[(.int .i64 v_5)] (fun (v_6 : Sl) (h : Heap) =>
  callK Try.prog .unit F.ref17_Writer_put #[(.pointer w0), (.slice v_6.a v_6.n v_6.c)] (fun (v_7 : Unit) (h : Heap) =>
  X_2 (IntKind.i64.wrap (s_1 + 1)) h) h) h)))
  (fun J_8 =>
  joinW (fun (s_9 : Bool) (h : Heap) =>
  if s_9 = true then
  derefK w0 (fun (a_10 : Addr) =>
  fldK ((some a_10)) 1 (fun (a_11 : Addr) =>
  storeK h ((some a_11)) (.int .i64 2) (fun (h : Heap) =>
  J_8 () h)))
  else
  J_8 () h)
  (fun J_12 =>
  derefK w0 (fun (a_13 : Addr) =>
  fldK ((some a_13)) 1 (fun (a_14 : Addr) =>
  loadK (.int .i64) h ((some a_14)) (fun (v_15 : Int) =>
  if (v_15 == 0) = true then
  idxK l1 s_1 (sizeOfT Try.prog T.int) (fun (a_16 : Addr) =>
  loadK (.int .i64) h ((some a_16)) (fun (v_17 : Int) =>
  if (decide (v_17 < 0)) = true then
  J_12 true h
  else
  idxK l1 s_1 (sizeOfT Try.prog T.int) (fun (a_18 : Addr) =>
  loadK (.int .i64) h ((some a_18)) (fun (v_19 : Int) =>
  J_12 (decide (v_19 > 4294967295)) h))))
  else
  J_12 false h)))))
  else
  derefK w0 (fun (a_20 : Addr) =>
  fldK ((some a_20)) 1 (fun (a_21 : Addr) =>
  loadK (.int .i64) h ((some a_21)) (fun (v_22 : Int) =>
  R (.int .i64 v_22) h)))) 0 h
def ref17_Writer_Number.ann : Ann := (.seq .leaf (.seq (.seq .leaf (.block (.loop [(5, (.int .i64))] (.seq (.seq .leaf (.cond .leaf .leaf)) (.seq (.block (.join [] (.join [(30, .bool)] .leaf (.cond .leaf .leaf)) .leaf)) .leaf))))) (.seq .leaf .leaf)))
theorem ref17_Writer_Number.eq (w0 : Option Addr) (l1 : Sl) (R : Value → Heap → Prop) (h : Heap) : ref17_Writer_Number.body w0 l1 R h = evFn Try.prog Try.f16 ref17_Writer_Number.ann [(.pointer w0), (.slice l1.a l1.n l1.c)] R h := by kernel_rfl
theorem ref17_Writer_Number.calls {w0 : Option Addr} {l1 : Sl} {R : Value → Heap → Prop} {h : Heap} (H : ref17_Writer_Number.body w0 l1 R h) : HC Try.prog F.ref17_Writer_Number #[(.pointer w0), (.slice l1.a l1.n l1.c)] R h :=
  evFn_sound mixed Try.func16 (by kernel_rfl) (ref17_Writer_Number.eq w0 l1 R h ▸ H)

/-! zugzwang/codec.put[zugzwang/api.Tag] -/
def codec_put_api_Tag.body (w0 : Option Addr) (r1 : Array Value) (l2 : Sl) (R : Value → Heap → Prop) (h : Heap) : Prop :=
  newK h r1 T.codec_ruleaapi_Tag (fun (r_1 : Option Addr) (h : Heap) =>
  if w0.isNone = true then
  R (.int .i64 1) h
  else
  derefK w0 (fun (a_2 : Addr) =>
  fldK ((some a_2)) 0 (fun (a_3 : Addr) =>
  fldK ((some a_3)) 0 (fun (a_4 : Addr) =>
  loadK .bool h ((some a_4)) (fun (v_5 : Bool) =>
  if (!v_5) = true then
  R (.int .i64 1) h
  else
  joinW (fun (s_6 : Unit) (h : Heap) =>
  derefK w0 (fun (a_7 : Addr) =>
  fldK ((some a_7)) 0 (fun (a_8 : Addr) =>
  fldK ((some a_8)) 1 (fun (a_9 : Addr) =>
  loadK (.int .i64) h ((some a_9)) (fun (v_10 : Int) =>
  R (.int .i64 v_10) h)))))
  (fun J_11 =>
  loopW (fun X_13 (s_12 : Int) (h : Heap) =>
  if (decide (s_12 < ((l2.n : Int)))) = true then
  idxK l2 s_12 (sizeOfT Try.prog T.api_Tag) (fun (a_14 : Addr) =>
  loadAggK (sizeOfT Try.prog T.api_Tag) h ((some a_14)) (fun (v_15 : Array Value) =>
  newK h (zerosOf Try.prog T.api_Tag) T.api_Tag (fun (x_16 : Option Addr) (h : Heap) =>
  storeAggK (sizeOfT Try.prog T.api_Tag) h x_16 v_15 (fun (h : Heap) =>
  derefK w0 (fun (a_17 : Addr) =>
  fldK ((some a_17)) 0 (fun (a_18 : Addr) =>
  callK Try.prog .bool F.codec_state_sound #[(.pointer ((some a_18)))] (fun (v_19 : Bool) (h : Heap) =>
  if (!v_19) = true then
  J_11 () h
  else
  joinW (fun (s_20 : Bool) (h : Heap) =>
  if s_20 = true then
  derefK w0 (fun (a_21 : Addr) =>
  fldK ((some a_21)) 0 (fun (a_22 : Addr) =>
  callK Try.prog (.int .i64) F.codec_state_spoil #[(.pointer ((some a_22))), (.int .i64 2)] (fun (v_23 : Int) (h : Heap) =>
  R (.int .i64 v_23) h) h))
  else
  fldK r_1 1 (fun (a_24 : Addr) =>
  loadK .any h ((some a_24)) (fun (v_25 : Value) =>
  loadAggK (sizeOfT Try.prog T.api_Tag) h x_16 (fun (v_26 : Array Value) =>
  callV Try.prog .slice v_25 #[(.agg v_26)] (fun (v_27 : Sl) (h : Heap) =>
  derefK w0 (fun (a_28 : Addr) =>
  fldK ((some a_28)) 2 (fun (a_29 : Addr) =>
  loadK .slice h ((some a_29)) (fun (v_30 : Sl) =>
  if (decide ((IntKind.i64.wrap (((v_30.n : Int)) + ((v_27.n : Int)))) > 65536)) = true then
  derefK w0 (fun (a_31 : Addr) =>
  fldK ((some a_31)) 0 (fun (a_32 : Addr) =>
  callK Try.prog (.int .i64) F.codec_state_spoil #[(.pointer ((some a_32))), (.int .i64 3)] (fun (v_33 : Int) (h : Heap) =>
  R (.int .i64 v_33) h) h))
  else
  derefK w0 (fun (a_34 : Addr) =>
  fldK ((some a_34)) 2 (fun (a_35 : Addr) =>
  loadK .slice h ((some a_35)) (fun (v_36 : Sl) =>
  opK Try.prog .slice (Builtin.append_ #[T.sl_uint8, T.sl_uint8] T.sl_uint8 #[(.slice v_36.a v_36.n v_36.c), (.slice v_27.a v_27.n v_27.c)]) (fun (v_37 : Sl) (h : Heap) =>
  derefK w0 (fun (a_38 : Addr) =>
  fldK ((some a_38)) 2 (fun (a_39 : Addr) =>
  storeK h ((some a_39)) (.slice v_37.a v_37.n v_37.c) (fun (h : Heap) =>
  X_13 (IntKind.i64.wrap (s_12 + 1)) h)))) h))))))) h))))
  (fun J_40 =>
  fldK r_1 0 (fun (a_41 : Addr) =>
  loadK .any h ((some a_41)) (fun (v_42 : Value) =>
  eqK Try.prog (binSem .neq T.func81 (.tmp 32) (.const Value.nilFunc) v_42 Value.nilFunc) (fun (v_43 : Bool) =>
  if v_43 = true then
  fldK r_1 0 (fun (a_44 : Addr) =>
  loadK .any h ((some a_44)) (fun (v_45 : Value) =>
  loadAggK (sizeOfT Try.prog T.api_Tag) h x_16 (fun (v_46 : Array Value) =>
  callV Try.prog .bool v_45 #[(.agg v_46)] (fun (v_47 : Bool) (h : Heap) =>
  J_40 (!v_47) h) h)))
  else
  J_40 false h))))) h))))))
  else
  J_11 () h) 0 h))))))
def codec_put_api_Tag.ann : Ann := (.seq .leaf (.seq (.seq .leaf (.cond (.seq .leaf .leaf) .leaf)) (.join [] (.seq .leaf (.block (.loop [(22, (.int .i64))] (.seq .leaf (.seq (.cond .leaf .leaf) (.seq (.block (.seq .leaf (.seq (.seq .leaf (.cond .leaf .leaf)) (.seq (.join [(40, .bool)] .leaf (.cond (.seq .leaf .leaf) .leaf)) (.seq .leaf (.seq (.seq .leaf (.cond (.seq .leaf .leaf) .leaf)) .leaf)))))) .leaf)))))) (.seq .leaf .leaf))))
theorem codec_put_api_Tag.eq (w0 : Option Addr) (r1 : Array Value) (l2 : Sl) (R : Value → Heap → Prop) (h : Heap) : codec_put_api_Tag.body w0 r1 l2 R h = evFn Try.prog Try.f46 codec_put_api_Tag.ann [(.pointer w0), (.agg r1), (.slice l2.a l2.n l2.c)] R h := by kernel_rfl
theorem codec_put_api_Tag.calls {w0 : Option Addr} {r1 : Array Value} {l2 : Sl} {R : Value → Heap → Prop} {h : Heap} (H : codec_put_api_Tag.body w0 r1 l2 R h) : HC Try.prog F.codec_put_api_Tag #[(.pointer w0), (.agg r1), (.slice l2.a l2.n l2.c)] R h :=
  evFn_sound mixed Try.func46 (by kernel_rfl) (codec_put_api_Tag.eq w0 r1 l2 R h ▸ H)

/-! (*zugzwang/codec.Writer).Tag$1 -/
def codec_Writer_Tag_1.body (t0 : Array Value) (R : Value → Heap → Prop) (h : Heap) : Prop :=
  newK h t0 T.api_Tag (fun (t_1 : Option Addr) (h : Heap) =>
  sliceArrK t_1 32 none none none (sizeOfT Try.prog T.uint8) (fun (v_2 : Sl) =>
  R (.slice v_2.a v_2.n v_2.c) h))
def codec_Writer_Tag_1.ann : Ann := (.seq .leaf (.seq .leaf .leaf))
theorem codec_Writer_Tag_1.eq (t0 : Array Value) (R : Value → Heap → Prop) (h : Heap) : codec_Writer_Tag_1.body t0 R h = evFn Try.prog Try.f47 codec_Writer_Tag_1.ann [(.agg t0)] R h := by kernel_rfl
theorem codec_Writer_Tag_1.calls {t0 : Array Value} {R : Value → Heap → Prop} {h : Heap} (H : codec_Writer_Tag_1.body t0 R h) : HC Try.prog F.codec_Writer_Tag_1 #[(.agg t0)] R h :=
  evFn_sound mixed Try.func47 (by kernel_rfl) (codec_Writer_Tag_1.eq t0 R h ▸ H)

/-! (*zugzwang/codec.Writer).Tag -/
def codec_Writer_Tag.body (w0 : Option Addr) (l1 : Sl) (R : Value → Heap → Prop) (h : Heap) : Prop :=
  buildK Try.prog (Instr.build T.codec_ruleaapi_Tag #[(1, ((Value.func (.func F.codec_Writer_Tag_1) #[] #[])))]) (fun (v_1 : Array Value) =>
  callK Try.prog (.int .i64) F.codec_put_api_Tag #[(.pointer w0), (.agg v_1), (.slice l1.a l1.n l1.c)] (fun (v_2 : Int) (h : Heap) =>
  R (.int .i64 v_2) h) h)
def codec_Writer_Tag.ann : Ann := (.seq .leaf (.seq .leaf .leaf))
theorem codec_Writer_Tag.eq (w0 : Option Addr) (l1 : Sl) (R : Value → Heap → Prop) (h : Heap) : codec_Writer_Tag.body w0 l1 R h = evFn Try.prog Try.f17 codec_Writer_Tag.ann [(.pointer w0), (.slice l1.a l1.n l1.c)] R h := by kernel_rfl
theorem codec_Writer_Tag.calls {w0 : Option Addr} {l1 : Sl} {R : Value → Heap → Prop} {h : Heap} (H : codec_Writer_Tag.body w0 l1 R h) : HC Try.prog F.codec_Writer_Tag #[(.pointer w0), (.slice l1.a l1.n l1.c)] R h :=
  evFn_sound mixed Try.func17 (by kernel_rfl) (codec_Writer_Tag.eq w0 l1 R h ▸ H)

/-! (*zugzwang/zugzwangref17.Writer).Tag -/
def ref17_Writer_Tag.body (w0 : Option Addr) (l1 : Sl) (R : Value → Heap → Prop) (h : Heap) : Prop :=
  loopW (fun X_2 (s_1 : Int) (h : Heap) =>
  if (decide (s_1 < ((l1.n : Int)))) = true then
  loopW (fun X_4 (s_3 : Sl × Int) (h : Heap) =>
  if (decide (s_3.2 < 32)) = true then
  idxK l1 s_1 (sizeOfT Try.prog T.api_Tag) (fun (a_5 : Addr) =>
  idxArrK ((some a_5)) 32 s_3.2 (sizeOfT Try.prog T.uint8) (fun (a_6 : Addr) =>
  loadK (.int .u8) h ((some a_6)) (fun (v_7 : Int) =>
  newSlK h 1 #[(.int .u8 v_7)] T.uint8 (fun (v_8 : Sl) (h : Heap) =>
  opK Try.prog .slice (Builtin.append_ #[T.sl_uint8, T.sl_uint8] T.sl_uint8 #[(.slice s_3.1.a s_3.1.n s_3.1.c), (.slice v_8.a v_8.n v_8.c)]) (fun (v_9 : Sl) (h : Heap) =>
  X_4 (v_9, IntKind.i64.wrap (s_3.2 + 1)) h) h))))
  else
  callK Try.prog .unit F.ref17_Writer_put #[(.pointer w0), (.slice s_3.1.a s_3.1.n s_3.1.c)] (fun (v_10 : Unit) (h : Heap) =>
  X_2 (IntKind.i64.wrap (s_1 + 1)) h) h) (⟨none, 0, 0⟩, 0) h
  else
  derefK w0 (fun (a_11 : Addr) =>
  fldK ((some a_11)) 1 (fun (a_12 : Addr) =>
  loadK (.int .i64) h ((some a_12)) (fun (v_13 : Int) =>
  R (.int .i64 v_13) h)))) 0 h
def ref17_Writer_Tag.ann : Ann := (.seq .leaf (.seq (.seq .leaf (.block (.loop [(5, (.int .i64))] (.seq (.seq .leaf (.cond .leaf .leaf)) (.seq (.block (.seq .leaf (.seq (.seq .leaf (.block (.loop [(6, .slice), (7, (.int .i64))] (.seq (.seq .leaf (.cond .leaf .leaf)) (.seq (.block .leaf) .leaf))))) .leaf))) .leaf))))) (.seq .leaf .leaf)))
theorem ref17_Writer_Tag.eq (w0 : Option Addr) (l1 : Sl) (R : Value → Heap → Prop) (h : Heap) : ref17_Writer_Tag.body w0 l1 R h = evFn Try.prog Try.f18 ref17_Writer_Tag.ann [(.pointer w0), (.slice l1.a l1.n l1.c)] R h := by kernel_rfl
theorem ref17_Writer_Tag.calls {w0 : Option Addr} {l1 : Sl} {R : Value → Heap → Prop} {h : Heap} (H : ref17_Writer_Tag.body w0 l1 R h) : HC Try.prog F.ref17_Writer_Tag #[(.pointer w0), (.slice l1.a l1.n l1.c)] R h :=
  evFn_sound mixed Try.func18 (by kernel_rfl) (ref17_Writer_Tag.eq w0 l1 R h ▸ H)

/-! (*zugzwang/zugzwangref17.Writer).Run -/
def ref17_Writer_Run.body (w0 : Option Addr) (l1 : Sl) (R : Value → Heap → Prop) (h : Heap) : Prop :=
  loopW (fun X_2 (s_1 : Int) (h : Heap) =>
  if (decide (s_1 < ((l1.n : Int)))) = true then
  idxK l1 s_1 (sizeOfT Try.prog T.sl_uint8) (fun (a_3 : Addr) =>
  idxK l1 s_1 (sizeOfT Try.prog T.sl_uint8) (fun (a_4 : Addr) =>
  loadK .slice h ((some a_3)) (fun (v_5 : Sl) =>
  loadK .slice h ((some a_4)) (fun (v_6 : Sl) =>
  callK Try.prog .slice F.ref17_Four #[(.int .i64 ((v_5.n : Int)))] (fun (v_7 : Sl) (h : Heap) =>
  stillK .slice h ((some a_4)) v_6 ∧
  opK Try.prog .slice (Builtin.append_ #[T.sl_uint8, T.sl_uint8] T.sl_uint8 #[(.slice v_7.a v_7.n v_7.c), (.slice v_6.a v_6.n v_6.c)]) (fun (v_8 : Sl) (h : Heap) =>
  callK Try.prog .unit F.ref17_Writer_put #[(.pointer w0), (.slice v_8.a v_8.n v_8.c)] (fun (v_9 : Unit) (h : Heap) =>
  X_2 (IntKind.i64.wrap (s_1 + 1)) h) h) h) h))))
  else
  derefK w0 (fun (a_10 : Addr) =>
  fldK ((some a_10)) 1 (fun (a_11 : Addr) =>
  loadK (.int .i64) h ((some a_11)) (fun (v_12 : Int) =>
  R (.int .i64 v_12) h)))) 0 h
def ref17_Writer_Run.ann : Ann := (.seq .leaf (.seq (.seq .leaf (.block (.loop [(5, (.int .i64))] (.seq (.seq .leaf (.cond .leaf .leaf)) (.seq (.block (.any (.loc 0 (.loc 1 (.loc 2 (.loc 3 (.loc 7 (.loc 8 (.loc 9 (.st 4 6240 (.loc 5 (.st 10 6144 (.last 6 (.last 11 (.last 12 .done))))))))))))))) .leaf))))) (.seq .leaf .leaf)))
theorem ref17_Writer_Run.eq (w0 : Option Addr) (l1 : Sl) (R : Value → Heap → Prop) (h : Heap) : ref17_Writer_Run.body w0 l1 R h = evFn Try.prog Try.f20 ref17_Writer_Run.ann [(.pointer w0), (.slice l1.a l1.n l1.c)] R h := by kernel_rfl
theorem ref17_Writer_Run.calls {w0 : Option Addr} {l1 : Sl} {R : Value → Heap → Prop} {h : Heap} (H : ref17_Writer_Run.body w0 l1 R h) : HC Try.prog F.ref17_Writer_Run #[(.pointer w0), (.slice l1.a l1.n l1.c)] R h :=
  evFn_sound mixed Try.func20 (by kernel_rfl) (ref17_Writer_Run.eq w0 l1 R h ▸ H)

/-! zugzwang/zugzwangkit.KeptInts -/
def kit_KeptInts.body (out0 : Sl) (l1 : Sl) (R : Value → Heap → Prop) (h : Heap) : Prop :=
  if (((out0.n : Int)) != ((l1.n : Int))) = true then
  R (.bool false) h
  else
  sliceK out0 none (some (IntKind.i64.wrap (((l1.n : Int)) + 12))) none (sizeOfT Try.prog T.int) (fun (v_1 : Sl) =>
  loopW (fun X_3 (s_2 : Int) (h : Heap) =>
  if (decide (s_2 < ((v_1.n : Int)))) = true then
  if (decide (s_2 < ((l1.n : Int)))) = true then
  idxK v_1 s_2 (sizeOfT Try.prog T.int) (fun (a_4 : Addr) =>
  loadK (.int .i64) h ((some a_4)) (fun (v_5 : Int) =>
  idxK l1 s_2 (sizeOfT Try.prog T.int) (fun (a_6 : Addr) =>
  loadK (.int .i64) h ((some a_6)) (fun (v_7 : Int) =>
  if (!(v_5 == v_7)) = true then
  R (.bool false) h
  else
  if (decide (s_2 ≥ ((l1.n : Int)))) = true then
  idxK v_1 s_2 (sizeOfT Try.prog T.int) (fun (a_8 : Addr) =>
  loadK (.int .i64) h ((some a_8)) (fun (v_9 : Int) =>
  callQ Try.prog (.int .i64) F.kit_mark #[(.int .i64 1), (.int .i64 (IntKind.i64.wrap (s_2 - ((l1.n : Int)))))] (fun (v_10 : Int) =>
  if (!(v_9 == v_10)) = true then
  R (.bool false) h
  else
  X_3 (IntKind.i64.wrap (s_2 + 1)) h) h))
  else
  X_3 (IntKind.i64.wrap (s_2 + 1)) h))))
  else
  if (decide (s_2 ≥ ((l1.n : Int)))) = true then
  idxK v_1 s_2 (sizeOfT Try.prog T.int) (fun (a_11 : Addr) =>
  loadK (.int .i64) h ((some a_11)) (fun (v_12 : Int) =>
  callQ Try.prog (.int .i64) F.kit_mark #[(.int .i64 1), (.int .i64 (IntKind.i64.wrap (s_2 - ((l1.n : Int)))))] (fun (v_13 : Int) =>
  if (!(v_12 == v_13)) = true then
  R (.bool false) h
  else
  X_3 (IntKind.i64.wrap (s_2 + 1)) h) h))
  else
  X_3 (IntKind.i64.wrap (s_2 + 1)) h
  else
  R (.bool true) h) 0 h)
def kit_KeptInts.ann : Ann := (.seq .leaf (.seq (.seq .leaf (.cond (.seq .leaf .leaf) .leaf)) (.seq .leaf (.seq (.seq .leaf (.block (.loop [(6, (.int .i64))] (.seq (.seq .leaf (.cond .leaf .leaf)) (.seq (.block (.seq .leaf (.cond (.seq .leaf .leaf) .leaf))) .leaf))))) (.seq .leaf .leaf)))))
theorem kit_KeptInts.eq (out0 : Sl) (l1 : Sl) (R : Value → Heap → Prop) (h : Heap) : kit_KeptInts.body out0 l1 R h = evFn Try.prog Try.f21 kit_KeptInts.ann [(.slice out0.a out0.n out0.c), (.slice l1.a l1.n l1.c)] R h := by kernel_rfl
theorem kit_KeptInts.calls {out0 : Sl} {l1 : Sl} {R : Value → Heap → Prop} {h : Heap} (H : kit_KeptInts.body out0 l1 R h) : HC Try.prog F.kit_KeptInts #[(.slice out0.a out0.n out0.c), (.slice l1.a l1.n l1.c)] R h :=
  evFn_sound mixed Try.func21 (by kernel_rfl) (kit_KeptInts.eq out0 l1 R h ▸ H)

/-! zugzwang/zugzwangkit.KeptTags -/
def kit_KeptTags.body (out0 : Sl) (l1 : Sl) (R : Value → Heap → Prop) (h : Heap) : Prop :=
  if (((out0.n : Int)) != ((l1.n : Int))) = true then
  R (.bool false) h
  else
  sliceK out0 none (some (IntKind.i64.wrap (((l1.n : Int)) + 12))) none (sizeOfT Try.prog T.api_Tag) (fun (v_1 : Sl) =>
  loopW (fun X_3 (s_2 : Int) (h : Heap) =>
  if (decide (s_2 < ((v_1.n : Int)))) = true then
  if (decide (s_2 < ((l1.n : Int)))) = true then
  idxK v_1 s_2 (sizeOfT Try.prog T.api_Tag) (fun (a_4 : Addr) =>
  idxK l1 s_2 (sizeOfT Try.prog T.api_Tag) (fun (a_5 : Addr) =>
  loadAggK (sizeOfT Try.prog T.api_Tag) h ((some a_4)) (fun (v_6 : Array Value) =>
  loadAggK (sizeOfT Try.prog T.api_Tag) h ((some a_5)) (fun (v_7 : Array Value) =>
  eqK Try.prog (binSem .eql T.api_Tag (.tmp 31) (.tmp 35) (.agg v_6) (.agg v_7)) (fun (v_8 : Bool) =>
  if (!v_8) = true then
  R (.bool false) h
  else
  if (decide (s_2 ≥ ((l1.n : Int)))) = true then
  idxK v_1 s_2 (sizeOfT Try.prog T.api_Tag) (fun (a_9 : Addr) =>
  loadAggK (sizeOfT Try.prog T.api_Tag) h ((some a_9)) (fun (v_10 : Array Value) =>
  callK Try.prog .agg F.kit_markTag #[(.int .i64 1), (.int .i64 (IntKind.i64.wrap (s_2 - ((l1.n : Int)))))] (fun (v_11 : Array Value) (h : Heap) =>
  stillAggK (sizeOfT Try.prog T.api_Tag) h ((some a_9)) v_10 ∧
  eqK Try.prog (binSem .eql T.api_Tag (.tmp 48) (.tmp 53) (.agg v_10) (.agg v_11)) (fun (v_12 : Bool) =>
  if (!v_12) = true then
  R (.bool false) h
  else
  X_3 (IntKind.i64.wrap (s_2 + 1)) h)) h))
  else
  X_3 (IntKind.i64.wrap (s_2 + 1)) h)))))
  else
  if (decide (s_2 ≥ ((l1.n : Int)))) = true then
  idxK v_1 s_2 (sizeOfT Try.prog T.api_Tag) (fun (a_13 : Addr) =>
  loadAggK (sizeOfT Try.prog T.api_Tag) h ((some a_13)) (fun (v_14 : Array Value) =>
  callK Try.prog .agg F.kit_markTag #[(.int .i64 1), (.int .i64 (IntKind.i64.wrap (s_2 - ((l1.n : Int)))))] (fun (v_15 : Array Value) (h : Heap) =>
  stillAggK (sizeOfT Try.prog T.api_Tag) h ((some a_13)) v_14 ∧
  eqK Try.prog (binSem .eql T.api_Tag (.tmp 48) (.tmp 53) (.agg v_14) (.agg v_15)) (fun (v_16 : Bool) =>
  if (!v_16) = true then
  R (.bool false) h
  else
  X_3 (IntKind.i64.wrap (s_2 + 1)) h)) h))
  else
  X_3 (IntKind.i64.wrap (s_2 + 1)) h
  else
  R (.bool true) h) 0 h)
def kit_KeptTags.ann : Ann := (.seq .leaf (.seq (.seq .leaf (.cond (.seq .leaf .leaf) .leaf)) (.seq .leaf (.seq (.seq .leaf (.block (.loop [(6, (.int .i64))] (.seq (.seq .leaf (.cond .leaf .leaf)) (.seq (.block (.seq (.any (.loc 0 (.loc 1 (.loc 2 (.loc 3 (.loc 4 (.locA 5 (.loc 6 (.loc 7 (.loc 9 (.loc 10 (.loc 11 (.st 8 34359730176 (.st 12 34359730176 (.loc 13 (.loc 14 (.loc 15 (.loc 16 (.locA 17 (.loc 18 (.loc 19 (.loc 20 (.loc 21 (.loc 22 (.loc 23 (.loc 24 (.loc 25 (.loc 26 (.loc 27 (.loc 28 (.loc 29 (.loc 30 (.loc 31 (.loc 32 (.loc 33 (.loc 34 .done))))))))))))))))) (.loc 18 (.loc 19 (.loc 20 (.loc 21 (.locA 22 (.loc 23 (.loc 24 (.loc 26 (.loc 27 (.loc 28 (.loc 29 (.st 25 32212254720 (.last 30 (.loc 31 (.loc 32 (.loc 33 (.loc 34 .done)))))))))))) (.loc 23 (.loc 24 (.loc 25 (.loc 26 (.loc 27 (.loc 28 (.loc 29 (.loc 30 (.loc 31 (.loc 32 (.loc 33 (.loc 34 .done))))))))))))))))))))))))))))) (.loc 6 (.loc 7 (.loc 8 (.loc 9 (.loc 10 (.loc 11 (.loc 12 (.loc 13 (.loc 14 (.loc 15 (.loc 16 (.loc 17 (.loc 18 (.loc 19 (.loc 20 (.loc 21 (.locA 22 (.loc 23 (.loc 24 (.loc 26 (.loc 27 (.loc 28 (.loc 29 (.st 25 32212254720 (.last 30 (.loc 31 (.loc 32 (.loc 33 (.loc 34 .done)))))))))))) (.loc 23 (.loc 24 (.loc 25 (.loc 26 (.loc 27 (.loc 28 (.loc 29 (.loc 30 (.loc 31 (.loc 32 (.loc 33 (.loc 34 .done)))))))))))))))))))))))))))))))))))) (.cond (.seq .leaf .leaf) .leaf))) .leaf))))) (.seq .leaf .leaf)))))
theorem kit_KeptTags.eq (out0 : Sl) (l1 : Sl) (R : Value → Heap → Prop) (h : Heap) : kit_KeptTags.body out0 l1 R h = evFn Try.prog Try.f22 kit_KeptTags.ann [(.slice out0.a out0.n out0.c), (.slice l1.a l1.n l1.c)] R h := by kernel_rfl
theorem kit_KeptTags.calls {out0 : Sl} {l1 : Sl} {R : Value → Heap → Prop} {h : Heap} (H : kit_KeptTags.body out0 l1 R h) : HC Try.prog F.kit_KeptTags #[(.slice out0.a out0.n out0.c), (.slice l1.a l1.n l1.c)] R h :=
  evFn_sound mixed Try.func22 (by kernel_rfl) (kit_KeptTags.eq out0 l1 R h ▸ H)

/-! zugzwang/zugzwangkit.KeptBytes -/
def kit_KeptBytes.body (out0 : Sl) (l1 : Sl) (R : Value → Heap → Prop) (h : Heap) : Prop :=
  if (((out0.n : Int)) != ((l1.n : Int))) = true then
  R (.bool false) h
  else
  sliceK out0 none (some (IntKind.i64.wrap (((l1.n : Int)) + 12))) none (sizeOfT Try.prog T.uint8) (fun (v_1 : Sl) =>
  loopW (fun X_3 (s_2 : Int) (h : Heap) =>
  if (decide (s_2 < ((v_1.n : Int)))) = true then
  if (decide (s_2 < ((l1.n : Int)))) = true then
  idxK v_1 s_2 (sizeOfT Try.prog T.uint8) (fun (a_4 : Addr) =>
  loadK (.int .u8) h ((some a_4)) (fun (v_5 : Int) =>
  idxK l1 s_2 (sizeOfT Try.prog T.uint8) (fun (a_6 : Addr) =>
  loadK (.int .u8) h ((some a_6)) (fun (v_7 : Int) =>
  if (!(v_5 == v_7)) = true then
  R (.bool false) h
  else
  if (decide (s_2 ≥ ((l1.n : Int)))) = true then
  idxK v_1 s_2 (sizeOfT Try.prog T.uint8) (fun (a_8 : Addr) =>
  loadK (.int .u8) h ((some a_8)) (fun (v_9 : Int) =>
  callQ Try.prog (.int .u8) F.kit_markByte #[(.int .i64 1), (.int .i64 (IntKind.i64.wrap (s_2 - ((l1.n : Int)))))] (fun (v_10 : Int) =>
  if (!(v_9 == v_10)) = true then
  R (.bool false) h
  else
  X_3 (IntKind.i64.wrap (s_2 + 1)) h) h))
  else
  X_3 (IntKind.i64.wrap (s_2 + 1)) h))))
  else
  if (decide (s_2 ≥ ((l1.n : Int)))) = true then
  idxK v_1 s_2 (sizeOfT Try.prog T.uint8) (fun (a_11 : Addr) =>
  loadK (.int .u8) h ((some a_11)) (fun (v_12 : Int) =>
  callQ Try.prog (.int .u8) F.kit_markByte #[(.int .i64 1), (.int .i64 (IntKind.i64.wrap (s_2 - ((l1.n : Int)))))] (fun (v_13 : Int) =>
  if (!(v_12 == v_13)) = true then
  R (.bool false) h
  else
  X_3 (IntKind.i64.wrap (s_2 + 1)) h) h))
  else
  X_3 (IntKind.i64.wrap (s_2 + 1)) h
  else
  R (.bool true) h) 0 h)
def kit_KeptBytes.ann : Ann := (.seq .leaf (.seq (.seq .leaf (.cond (.seq .leaf .leaf) .leaf)) (.seq .leaf (.seq (.seq .leaf (.block (.loop [(6, (.int .i64))] (.seq (.seq .leaf (.cond .leaf .leaf)) (.seq (.block (.seq .leaf (.cond (.seq .leaf .leaf) .leaf))) .leaf))))) (.seq .leaf .leaf)))))
theorem kit_KeptBytes.eq (out0 : Sl) (l1 : Sl) (R : Value → Heap → Prop) (h : Heap) : kit_KeptBytes.body out0 l1 R h = evFn Try.prog Try.f51 kit_KeptBytes.ann [(.slice out0.a out0.n out0.c), (.slice l1.a l1.n l1.c)] R h := by kernel_rfl
theorem kit_KeptBytes.calls {out0 : Sl} {l1 : Sl} {R : Value → Heap → Prop} {h : Heap} (H : kit_KeptBytes.body out0 l1 R h) : HC Try.prog F.kit_KeptBytes #[(.slice out0.a out0.n out0.c), (.slice l1.a l1.n l1.c)] R h :=
  evFn_sound mixed Try.func51 (by kernel_rfl) (kit_KeptBytes.eq out0 l1 R h ▸ H)

/-! zugzwang/zugzwangkit.KeptByteRows -/
def kit_KeptByteRows.body (in0 : Sl) (l1 : Sl) (R : Value → Heap → Prop) (h : Heap) : Prop :=
  if (((in0.n : Int)) != ((l1.n : Int))) = true then
  R (.bool false) h
  else
  loopW (fun X_2 (s_1 : Int) (h : Heap) =>
  if (decide (s_1 < ((l1.n : Int)))) = true then
  idxK in0 s_1 (sizeOfT Try.prog T.sl_uint8) (fun (a_3 : Addr) =>
  loadK .slice h ((some a_3)) (fun (v_4 : Sl) =>
  idxK l1 s_1 (sizeOfT Try.prog T.sl_uint8) (fun (a_5 : Addr) =>
  loadK .slice h ((some a_5)) (fun (v_6 : Sl) =>
  callQ Try.prog .bool F.kit_KeptBytes #[(.slice v_4.a v_4.n v_4.c), (.slice v_6.a v_6.n v_6.c)] (fun (v_7 : Bool) =>
  if (!v_7) = true then
  R (.bool false) h
  else
  X_2 (IntKind.i64.wrap (s_1 + 1)) h) h))))
  else
  R (.bool true) h) 0 h
def kit_KeptByteRows.ann : Ann := (.seq .leaf (.seq (.seq .leaf (.cond (.seq .leaf .leaf) .leaf)) (.seq (.seq .leaf (.block (.loop [(5, (.int .i64))] (.seq (.seq .leaf (.cond .leaf .leaf)) (.seq (.block (.seq .leaf (.cond (.seq .leaf .leaf) .leaf))) .leaf))))) (.seq .leaf .leaf))))
theorem kit_KeptByteRows.eq (in0 : Sl) (l1 : Sl) (R : Value → Heap → Prop) (h : Heap) : kit_KeptByteRows.body in0 l1 R h = evFn Try.prog Try.f23 kit_KeptByteRows.ann [(.slice in0.a in0.n in0.c), (.slice l1.a l1.n l1.c)] R h := by kernel_rfl
theorem kit_KeptByteRows.calls {in0 : Sl} {l1 : Sl} {R : Value → Heap → Prop} {h : Heap} (H : kit_KeptByteRows.body in0 l1 R h) : HC Try.prog F.kit_KeptByteRows #[(.slice in0.a in0.n in0.c), (.slice l1.a l1.n l1.c)] R h :=
  evFn_sound mixed Try.func23 (by kernel_rfl) (kit_KeptByteRows.eq in0 l1 R h ▸ H)

/-! (*zugzwang/zugzwangref17.Writer).Out -/
def ref17_Writer_Out.body (w0 : Option Addr) (R : Value → Heap → Prop) (h : Heap) : Prop :=
  derefK w0 (fun (a_1 : Addr) =>
  fldK ((some a_1)) 1 (fun (a_2 : Addr) =>
  loadK (.int .i64) h ((some a_2)) (fun (v_3 : Int) =>
  if (v_3 != 0) = true then
  derefK w0 (fun (a_4 : Addr) =>
  fldK ((some a_4)) 1 (fun (a_5 : Addr) =>
  loadK (.int .i64) h ((some a_5)) (fun (v_6 : Int) =>
  R (.tuple #[(.slice none 0 0), (.int .i64 v_6)]) h)))
  else
  derefK w0 (fun (a_7 : Addr) =>
  fldK ((some a_7)) 0 (fun (a_8 : Addr) =>
  loadK .slice h ((some a_8)) (fun (v_9 : Sl) =>
  R (.tuple #[(.slice v_9.a v_9.n v_9.c), (.int .i64 0)]) h))))))
def ref17_Writer_Out.ann : Ann := (.seq .leaf (.seq (.seq .leaf (.cond (.seq .leaf .leaf) .leaf)) (.seq .leaf .leaf)))
theorem ref17_Writer_Out.eq (w0 : Option Addr) (R : Value → Heap → Prop) (h : Heap) : ref17_Writer_Out.body w0 R h = evFn Try.prog Try.f25 ref17_Writer_Out.ann [(.pointer w0)] R h := by kernel_rfl
theorem ref17_Writer_Out.calls {w0 : Option Addr} {R : Value → Heap → Prop} {h : Heap} (H : ref17_Writer_Out.body w0 R h) : HC Try.prog F.ref17_Writer_Out #[(.pointer w0)] R h :=
  evFn_sound mixed Try.func25 (by kernel_rfl) (ref17_Writer_Out.eq w0 R h ▸ H)

/-! zugzwang/zugzwangkit.OverBytes -/
def kit_OverBytes.body (out0 : Sl) (R : Value → Heap → Prop) (h : Heap) : Prop :=
  sliceK out0 none (some (if (IntKind.i64.wrap (((out0.n : Int)) + 12)) < ((out0.c : Int)) then (IntKind.i64.wrap (((out0.n : Int)) + 12)) else ((out0.c : Int)))) none (sizeOfT Try.prog T.uint8) (fun (v_1 : Sl) =>
  loopW (fun X_3 (s_2 : Int) (h : Heap) =>
  if (decide (s_2 < ((v_1.n : Int)))) = true then
  callK Try.prog (.int .u8) F.kit_markByte #[(.int .i64 2), (.int .i64 s_2)] (fun (v_4 : Int) (h : Heap) =>
  idxK v_1 s_2 (sizeOfT Try.prog T.uint8) (fun (a_5 : Addr) =>
  storeK h ((some a_5)) (.int .u8 v_4) (fun (h : Heap) =>
  X_3 (IntKind.i64.wrap (s_2 + 1)) h))) h
  else
  R (.tuple #[]) h) 0 h)
def kit_OverBytes.ann : Ann := (.seq .leaf (.seq .leaf (.block (.loop [(3, (.int .i64))] (.seq (.seq .leaf (.cond .leaf .leaf)) (.seq (.block .leaf) .leaf))))))
theorem kit_OverBytes.eq (out0 : Sl) (R : Value → Heap → Prop) (h : Heap) : kit_OverBytes.body out0 R h = evFn Try.prog Try.f27 kit_OverBytes.ann [(.slice out0.a out0.n out0.c)] R h := by kernel_rfl
theorem kit_OverBytes.calls {out0 : Sl} {R : Value → Heap → Prop} {h : Heap} (H : kit_OverBytes.body out0 R h) : HC Try.prog F.kit_OverBytes #[(.slice out0.a out0.n out0.c)] R h :=
  evFn_sound mixed Try.func27 (by kernel_rfl) (kit_OverBytes.eq out0 R h ▸ H)

/-! zugzwang/zugzwanglaw17.CodecPuts -/
def law17_CodecPuts.body (l0 : Sl) (R : Value → Heap → Prop) (h : Heap) : Prop :=
  callK Try.prog (.int .i64) F.law17_size #[(.slice l0.a l0.n l0.c)] (fun (v_1 : Int) (h : Heap) =>
  if (decide (v_1 > 3000)) = true then
  callK Try.prog .bool F.law17_awake #[] (fun (v_2 : Bool) (h : Heap) =>
  R (.bool v_2) h) h
  else
  callK Try.prog .ptr F.codec_New #[] (fun (v_3 : Option Addr) (h : Heap) =>
  buildK Try.prog (Instr.build T.zugzwangref17_Writer #[]) (fun (v_4 : Array Value) =>
  newK h v_4 T.zugzwangref17_Writer (fun (v_5 : Option Addr) (h : Heap) =>
  loopW (fun X_7 (s_6 : Int) (h : Heap) =>
  if (decide (s_6 < ((l0.n : Int)))) = true then
  idxK l0 s_6 (sizeOfT Try.prog T.zugzwanglaw17_Deed) (fun (a_8 : Addr) =>
  fldK ((some a_8)) 1 (fun (a_9 : Addr) =>
  idxK l0 s_6 (sizeOfT Try.prog T.zugzwanglaw17_Deed) (fun (a_10 : Addr) =>
  fldK ((some a_10)) 2 (fun (a_11 : Addr) =>
  idxK l0 s_6 (sizeOfT Try.prog T.zugzwanglaw17_Deed) (fun (a_12 : Addr) =>
  fldK ((some a_12)) 3 (fun (a_13 : Addr) =>
  loadK .slice h ((some a_9)) (fun (v_14 : Sl) =>
  loadK .slice h ((some a_11)) (fun (v_15 : Sl) =>
  loadK .slice h ((some a_13)) (fun (v_16 : Sl) =>
  callK Try.prog .slice F.kit_LentInts #[(.slice v_14.a v_14.n v_14.c)] (fun (v_17 : Sl) (h : Heap) =>
  stillK .slice h ((some a_13)) v_16 ∧
  stillK .slice h ((some a_11)) v_15 ∧
  callK Try.prog .slice F.kit_LentTags #[(.slice v_15.a v_15.n v_15.c)] (fun (v_18 : Sl) (h : Heap) =>
  stillK .slice h ((some a_13)) v_16 ∧
  callK Try.prog .slice F.kit_LentByteRows #[(.slice v_16.a v_16.n v_16.c)] (fun (v_19 : Sl) (h : Heap) =>
  joinW (fun (s_20 : Bool) (h : Heap) =>
  if (!s_20) = true then
  R (.bool false) h
  else
  idxK l0 s_6 (sizeOfT Try.prog T.zugzwanglaw17_Deed) (fun (a_21 : Addr) =>
  fldK ((some a_21)) 1 (fun (a_22 : Addr) =>
  loadK .slice h ((some a_22)) (fun (v_23 : Sl) =>
  callK Try.prog .bool F.kit_KeptInts #[(.slice v_17.a v_17.n v_17.c), (.slice v_23.a v_23.n v_23.c)] (fun (v_24 : Bool) (h : Heap) =>
  if (!v_24) = true then
  R (.bool false) h
  else
  idxK l0 s_6 (sizeOfT Try.prog T.zugzwanglaw17_Deed) (fun (a_25 : Addr) =>
  fldK ((some a_25)) 2 (fun (a_26 : Addr) =>
  loadK .slice h ((some a_26)) (fun (v_27 : Sl) =>
  callK Try.prog .bool F.kit_KeptTags #[(.slice v_18.a v_18.n v_18.c), (.slice v_27.a v_27.n v_27.c)] (fun (v_28 : Bool) (h : Heap) =>
  if (!v_28) = true then
  R (.bool false) h
  else
  idxK l0 s_6 (sizeOfT Try.prog T.zugzwanglaw17_Deed) (fun (a_29 : Addr) =>
  fldK ((some a_29)) 3 (fun (a_30 : Addr) =>
  loadK .slice h ((some a_30)) (fun (v_31 : Sl) =>
  callK Try.prog .bool F.kit_KeptByteRows #[(.slice v_19.a v_19.n v_19.c), (.slice v_31.a v_31.n v_31.c)] (fun (v_32 : Bool) (h : Heap) =>
  if (!v_32) = true then
  R (.bool false) h
  else
  callK Try.prog (Kd.pair .slice (.int .i64)) F.codec_Writer_Out #[(.pointer v_3)] (fun (v_33 : Sl × Int) (h : Heap) =>
  callK Try.prog (Kd.pair .slice (.int .i64)) F.ref17_Writer_Out #[(.pointer v_5)] (fun (v_34 : Sl × Int) (h : Heap) =>
  callK Try.prog .bool F.kit_SameBytes #[(.slice v_33.1.a v_33.1.n v_33.1.c), (.slice v_34.1.a v_34.1.n v_34.1.c)] (fun (v_35 : Bool) (h : Heap) =>
  if (!v_35) = true then
  R (.bool false) h
  else
  if (v_33.2 != v_34.2) = true then
  R (.bool false) h
  else
  callK Try.prog .unit F.kit_OverBytes #[(.slice v_33.1.a v_33.1.n v_33.1.c)] (fun (v_36 : Unit) (h : Heap) =>
  X_7 (IntKind.i64.wrap (s_6 + 1)) h) h) h) h) h) h)))) h)))) h))))
  (fun J_37 =>
  idxK l0 s_6 (sizeOfT Try.prog T.zugzwanglaw17_Deed) (fun (a_38 : Addr) =>
  fldK ((some a_38)) 0 (fun (a_39 : Addr) =>
  loadK (.int .i64) h ((some a_39)) (fun (v_40 : Int) =>
  callK Try.prog (.int .i64) F.kit_Pick #[(.int .i64 v_40), (.int .i64 4)] (fun (v_41 : Int) (h : Heap) =>
  if (v_41 == 0) = true then
  idxK l0 s_6 (sizeOfT Try.prog T.zugzwanglaw17_Deed) (fun (a_42 : Addr) =>
  fldK ((some a_42)) 1 (fun (a_43 : Addr) =>
  loadK .slice h ((some a_43)) (fun (v_44 : Sl) =>
  callK Try.prog (.int .i64) F.codec_Writer_Byte #[(.pointer v_3), (.slice v_17.a v_17.n v_17.c)] (fun (v_45 : Int) (h : Heap) =>
  stillK .slice h ((some a_43)) v_44 ∧
  callK Try.prog (.int .i64) F.ref17_Writer_Byte #[(.pointer v_5), (.slice v_44.a v_44.n v_44.c)] (fun (v_46 : Int) (h : Heap) =>
  J_37 (v_45 == v_46) h) h) h)))
  else
  if (v_41 == 1) = true then
  idxK l0 s_6 (sizeOfT Try.prog T.zugzwanglaw17_Deed) (fun (a_47 : Addr) =>
  fldK ((some a_47)) 1 (fun (a_48 : Addr) =>
  loadK .slice h ((some a_48)) (fun (v_49 : Sl) =>
  callK Try.prog (.int .i64) F.codec_Writer_Number #[(.pointer v_3), (.slice v_17.a v_17.n v_17.c)] (fun (v_50 : Int) (h : Heap) =>
  stillK .slice h ((some a_48)) v_49 ∧
  callK Try.prog (.int .i64) F.ref17_Writer_Number #[(.pointer v_5), (.slice v_49.a v_49.n v_49.c)] (fun (v_51 : Int) (h : Heap) =>
  J_37 (v_50 == v_51) h) h) h)))
  else
  if (v_41 == 2) = true then
  idxK l0 s_6 (sizeOfT Try.prog T.zugzwanglaw17_Deed) (fun (a_52 : Addr) =>
  fldK ((some a_52)) 2 (fun (a_53 : Addr) =>
  loadK .slice h ((some a_53)) (fun (v_54 : Sl) =>
  callK Try.prog (.int .i64) F.codec_Writer_Tag #[(.pointer v_3), (.slice v_18.a v_18.n v_18.c)] (fun (v_55 : Int) (h : Heap) =>
  stillK .slice h ((some a_53)) v_54 ∧
  callK Try.prog (.int .i64) F.ref17_Writer_Tag #[(.pointer v_5), (.slice v_54.a v_54.n v_54.c)] (fun (v_56 : Int) (h : Heap) =>
  J_37 (v_55 == v_56) h) h) h)))
  else
  if (v_41 == 3) = true then
  idxK l0 s_6 (sizeOfT Try.prog T.zugzwanglaw17_Deed) (fun (a_57 : Addr) =>
  fldK ((some a_57)) 3 (fun (a_58 : Addr) =>
  loadK .slice h ((some a_58)) (fun (v_59 : Sl) =>
  callK Try.prog (.int .i64) F.codec_Writer_Run #[(.pointer v_3), (.slice v_19.a v_19.n v_19.c)] (fun (v_60 : Int) (h : Heap) =>
  stillK .slice h ((some a_58)) v_59 ∧
  callK Try.prog (.int .i64) F.ref17_Writer_Run #[(.pointer v_5), (.slice v_59.a v_59.n v_59.c)] (fun (v_61 : Int) (h : Heap) =>
  J_37 (v_60 == v_61) h) h) h)))
  else
  J_37 true h) h))))) h) h) h)))))))))
  else
  callK Try.prog .bool F.law17_awake #[] (fun (v_62 : Bool) (h : Heap) =>
  R (.bool v_62) h) h) 0 h))) h) h
def law17_CodecPuts.ann : Ann := (.seq .leaf (.seq (.seq .leaf (.cond (.seq .leaf .leaf) .leaf)) (.seq .leaf (.seq (.seq .leaf (.block (.loop [(5, (.int .i64))] (.seq (.seq .leaf (.cond .leaf .leaf)) (.seq (.block (.seq (.any (.loc 0 (.loc 1 (.loc 2 (.loc 3 (.loc 6 (.loc 7 (.loc 8 (.loc 9 (.loc 12 (.loc 13 (.loc 14 (.loc 15 (.st 4 1968160 (.st 10 1968128 (.st 16 1966080 (.last 5 (.last 11 (.last 17 (.loc 18 (.loc 19 (.loc 20 .done)))))))))))))))))))))) (.seq .leaf (.join [(9, .bool)] (.seq .leaf (.block (.seq .leaf (.cond (.any (.loc 0 (.loc 1 (.loc 3 (.loc 4 (.loc 5 (.loc 6 (.loc 7 (.st 8 3584 (.last 2 (.last 9 (.loc 10 (.loc 11 .done))))))))))))) (.seq .leaf (.cond (.any (.loc 0 (.loc 1 (.loc 3 (.loc 4 (.loc 5 (.loc 6 (.loc 7 (.st 8 3584 (.last 2 (.last 9 (.loc 10 (.loc 11 .done))))))))))))) (.seq .leaf (.cond (.any (.loc 0 (.loc 1 (.loc 3 (.loc 4 (.loc 5 (.loc 6 (.loc 7 (.st 8 3584 (.last 2 (.last 9 (.loc 10 (.loc 11 .done))))))))))))) (.seq .leaf (.cond (.any (.loc 0 (.loc 1 (.loc 3 (.loc 4 (.loc 5 (.loc 6 (.loc 7 (.st 8 3584 (.last 2 (.last 9 (.loc 10 (.loc 11 .done))))))))))))) .leaf)))))))))) (.seq (.seq .leaf (.cond (.seq .leaf .leaf) .leaf)) (.seq .leaf (.seq .leaf (.seq (.seq .leaf (.cond (.seq .leaf .leaf) .leaf)) .leaf)))))))) .leaf))))) (.seq .leaf .leaf)))))
theorem law17_CodecPuts.eq (l0 : Sl) (R : Value → Heap → Prop) (h : Heap) : law17_CodecPuts.body l0 R h = evFn Try.prog Try.f3 law17_CodecPuts.ann [(.slice l0.a l0.n l0.c)] R h := by kernel_rfl
theorem law17_CodecPuts.calls {l0 : Sl} {R : Value → Heap → Prop} {h : Heap} (H : law17_CodecPuts.body l0 R h) : HC Try.prog F.law17_CodecPuts #[(.slice l0.a l0.n l0.c)] R h :=
  evFn_sound mixed Try.func3 (by kernel_rfl) (law17_CodecPuts.eq l0 R h ▸ H)

/-! zugzwang/zugzwanglaw17.put -/
def law17_put.body (w0 : Option Addr) (d1 : Array Value) (R : Value → Heap → Prop) (h : Heap) : Prop :=
  newK h d1 T.zugzwanglaw17_Deed (fun (d_1 : Option Addr) (h : Heap) =>
  fldK d_1 0 (fun (a_2 : Addr) =>
  loadK (.int .i64) h ((some a_2)) (fun (v_3 : Int) =>
  callK Try.prog (.int .i64) F.kit_Pick #[(.int .i64 v_3), (.int .i64 4)] (fun (v_4 : Int) (h : Heap) =>
  if (v_4 == 0) = true then
  fldK d_1 1 (fun (a_5 : Addr) =>
  loadK .slice h ((some a_5)) (fun (v_6 : Sl) =>
  callK Try.prog (.int .i64) F.codec_Writer_Byte #[(.pointer w0), (.slice v_6.a v_6.n v_6.c)] (fun (v_7 : Int) (h : Heap) =>
  R (.int .i64 v_7) h) h))
  else
  if (v_4 == 1) = true then
  fldK d_1 1 (fun (a_8 : Addr) =>
  loadK .slice h ((some a_8)) (fun (v_9 : Sl) =>
  callK Try.prog (.int .i64) F.codec_Writer_Number #[(.pointer w0), (.slice v_9.a v_9.n v_9.c)] (fun (v_10 : Int) (h : Heap) =>
  R (.int .i64 v_10) h) h))
  else
  if (v_4 == 2) = true then
  fldK d_1 2 (fun (a_11 : Addr) =>
  loadK .slice h ((some a_11)) (fun (v_12 : Sl) =>
  callK Try.prog (.int .i64) F.codec_Writer_Tag #[(.pointer w0), (.slice v_12.a v_12.n v_12.c)] (fun (v_13 : Int) (h : Heap) =>
  R (.int .i64 v_13) h) h))
  else
  fldK d_1 3 (fun (a_14 : Addr) =>
  loadK .slice h ((some a_14)) (fun (v_15 : Sl) =>
  callK Try.prog (.int .i64) F.codec_Writer_Run #[(.pointer w0), (.slice v_15.a v_15.n v_15.c)] (fun (v_16 : Int) (h : Heap) =>
  R (.int .i64 v_16) h) h))) h)))
def law17_put.ann : Ann := (.seq .leaf (.seq (.seq .leaf (.block (.seq .leaf (.cond (.seq .leaf .leaf) (.seq .leaf (.cond (.seq .leaf .leaf) (.seq .leaf (.cond (.seq .leaf .leaf) .leaf)))))))) (.seq .leaf .leaf)))
theorem law17_put.eq (w0 : Option Addr) (d1 : Array Value) (R : Value → Heap → Prop) (h : Heap) : law17_put.body w0 d1 R h = evFn Try.prog Try.f28 law17_put.ann [(.pointer w0), (.agg d1)] R h := by kernel_rfl
theorem law17_put.calls {w0 : Option Addr} {d1 : Array Value} {R : Value → Heap → Prop} {h : Heap} (H : law17_put.body w0 d1 R h) : HC Try.prog F.law17_put #[(.pointer w0), (.agg d1)] R h :=
  evFn_sound mixed Try.func28 (by kernel_rfl) (law17_put.eq w0 d1 R h ▸ H)

/-! (*zugzwang/codec.Reader).Tag -/
def codec_Reader_Tag.body (r0 : Option Addr) (R : Value → Heap → Prop) (h : Heap) : Prop :=
  newK h (zerosOf Try.prog T.api_Tag) T.api_Tag (fun (t_1 : Option Addr) (h : Heap) =>
  sliceArrK t_1 32 none none none (sizeOfT Try.prog T.uint8) (fun (v_2 : Sl) =>
  callK Try.prog .slice F.codec_Reader_next #[(.pointer r0), (.int .i64 32)] (fun (v_3 : Sl) (h : Heap) =>
  opK Try.prog (.int .i64) (Builtin.copy_ #[T.sl_uint8, T.sl_uint8] T.int #[(.slice v_2.a v_2.n v_2.c), (.slice v_3.a v_3.n v_3.c)]) (fun (v_4 : Int) (h : Heap) =>
  loadAggK (sizeOfT Try.prog T.api_Tag) h t_1 (fun (v_5 : Array Value) =>
  storeAggK (sizeOfT Try.prog T.api_Tag) h t_1 v_5 (fun (h : Heap) =>
  quietK Try.prog .agg (Instr.loadAt T.api_Tag (.pointer t_1)) (fun (r_6 : Array Value) =>
  R (.agg r_6) h) h))) h) h))
def codec_Reader_Tag.ann : Ann := (.seq .leaf (.seq (.any (.loc 0 (.loc 1 (.last 2 (.last 3 .done))))) (.seq .leaf .leaf)))
theorem codec_Reader_Tag.eq (r0 : Option Addr) (R : Value → Heap → Prop) (h : Heap) : codec_Reader_Tag.body r0 R h = evFn Try.prog Try.f35 codec_Reader_Tag.ann [(.pointer r0)] R h := by kernel_rfl
theorem codec_Reader_Tag.calls {r0 : Option Addr} {R : Value → Heap → Prop} {h : Heap} (H : codec_Reader_Tag.body r0 R h) : HC Try.prog F.codec_Reader_Tag #[(.pointer r0)] R h :=
  evFn_sound mixed Try.func35 (by kernel_rfl) (codec_Reader_Tag.eq r0 R h ▸ H)

/-! zugzwang/zugzwanglaw17.back -/
def law17_back.body (r0 : Option Addr) (d1 : Array Value) (R : Value → Heap → Prop) (h : Heap) : Prop :=
  newK h d1 T.zugzwanglaw17_Deed (fun (d_1 : Option Addr) (h : Heap) =>
  fldK d_1 0 (fun (a_2 : Addr) =>
  loadK (.int .i64) h ((some a_2)) (fun (v_3 : Int) =>
  callK Try.prog (.int .i64) F.kit_Pick #[(.int .i64 v_3), (.int .i64 4)] (fun (v_4 : Int) (h : Heap) =>
  if (v_4 == 0) = true then
  loopW (fun X_6 (s_5 : Int) (h : Heap) =>
  fldK d_1 1 (fun (a_7 : Addr) =>
  loadK .slice h ((some a_7)) (fun (v_8 : Sl) =>
  if (decide (s_5 < ((v_8.n : Int)))) = true then
  fldK d_1 1 (fun (a_9 : Addr) =>
  loadK .slice h ((some a_9)) (fun (v_10 : Sl) =>
  idxK v_10 s_5 (sizeOfT Try.prog T.int) (fun (a_11 : Addr) =>
  loadK (.int .i64) h ((some a_11)) (fun (v_12 : Int) =>
  callK Try.prog (.int .i64) F.codec_Reader_Byte #[(.pointer r0)] (fun (v_13 : Int) (h : Heap) =>
  stillK (.int .i64) h ((some a_11)) v_12 ∧
  stillK .slice h ((some a_9)) v_10 ∧
  if (v_13 != v_12) = true then
  R (.bool false) h
  else
  X_6 (IntKind.i64.wrap (s_5 + 1)) h) h))))
  else
  R (.bool true) h))) 0 h
  else
  if (v_4 == 1) = true then
  loopW (fun X_15 (s_14 : Int) (h : Heap) =>
  fldK d_1 1 (fun (a_16 : Addr) =>
  loadK .slice h ((some a_16)) (fun (v_17 : Sl) =>
  if (decide (s_14 < ((v_17.n : Int)))) = true then
  fldK d_1 1 (fun (a_18 : Addr) =>
  loadK .slice h ((some a_18)) (fun (v_19 : Sl) =>
  idxK v_19 s_14 (sizeOfT Try.prog T.int) (fun (a_20 : Addr) =>
  loadK (.int .i64) h ((some a_20)) (fun (v_21 : Int) =>
  callK Try.prog (.int .i64) F.codec_Reader_Number #[(.pointer r0)] (fun (v_22 : Int) (h : Heap) =>
  stillK (.int .i64) h ((some a_20)) v_21 ∧
  stillK .slice h ((some a_18)) v_19 ∧
  if (v_22 != v_21) = true then
  R (.bool false) h
  else
  X_15 (IntKind.i64.wrap (s_14 + 1)) h) h))))
  else
  R (.bool true) h))) 0 h
  else
  if (v_4 == 2) = true then
  loopW (fun X_24 (s_23 : Int) (h : Heap) =>
  fldK d_1 2 (fun (a_25 : Addr) =>
  loadK .slice h ((some a_25)) (fun (v_26 : Sl) =>
  if (decide (s_23 < ((v_26.n : Int)))) = true then
  fldK d_1 2 (fun (a_27 : Addr) =>
  loadK .slice h ((some a_27)) (fun (v_28 : Sl) =>
  idxK v_28 s_23 (sizeOfT Try.prog T.api_Tag) (fun (a_29 : Addr) =>
  loadAggK (sizeOfT Try.prog T.api_Tag) h ((some a_29)) (fun (v_30 : Array Value) =>
  callK Try.prog .agg F.codec_Reader_Tag #[(.pointer r0)] (fun (v_31 : Array Value) (h : Heap) =>
  stillAggK (sizeOfT Try.prog T.api_Tag) h ((some a_29)) v_30 ∧
  stillK .slice h ((some a_27)) v_28 ∧
  eqK Try.prog (binSem .neq T.api_Tag (.tmp 56) (.tmp 61) (.agg v_31) (.agg v_30)) (fun (v_32 : Bool) =>
  if v_32 = true then
  R (.bool false) h
  else
  X_24 (IntKind.i64.wrap (s_23 + 1)) h)) h))))
  else
  R (.bool true) h))) 0 h
  else
  if (v_4 == 3) = true then
  loopW (fun X_34 (s_33 : Int) (h : Heap) =>
  fldK d_1 3 (fun (a_35 : Addr) =>
  loadK .slice h ((some a_35)) (fun (v_36 : Sl) =>
  if (decide (s_33 < ((v_36.n : Int)))) = true then
  fldK d_1 3 (fun (a_37 : Addr) =>
  loadK .slice h ((some a_37)) (fun (v_38 : Sl) =>
  idxK v_38 s_33 (sizeOfT Try.prog T.sl_uint8) (fun (a_39 : Addr) =>
  loadK .slice h ((some a_39)) (fun (v_40 : Sl) =>
  callK Try.prog .slice F.codec_Reader_Run #[(.pointer r0)] (fun (v_41 : Sl) (h : Heap) =>
  stillK .slice h ((some a_39)) v_40 ∧
  stillK .slice h ((some a_37)) v_38 ∧
  callK Try.prog .bool F.kit_SameBytes #[(.slice v_41.a v_41.n v_41.c), (.slice v_40.a v_40.n v_40.c)] (fun (v_42 : Bool) (h : Heap) =>
  if (!v_42) = true then
  R (.bool false) h
  else
  X_34 (IntKind.i64.wrap (s_33 + 1)) h) h) h))))
  else
  R (.bool true) h))) 0 h
  else
  R (.bool true) h) h)))
def law17_back.ann : Ann := (.seq .leaf (.seq (.seq .leaf (.block (.seq .leaf (.cond (.seq .leaf (.block (.loop [(5, (.int .i64))] (.seq (.seq .leaf (.cond .leaf .leaf)) (.seq (.block (.seq (.any (.loc 0 (.loc 2 (.loc 4 (.st 3 224 (.loc 5 (.st 6 128 (.last 1 (.loc 7 .done))))))))) (.cond (.seq .leaf .leaf) .leaf))) .leaf))))) (.seq .leaf (.cond (.seq .leaf (.block (.loop [(6, (.int .i64))] (.seq (.seq .leaf (.cond .leaf .leaf)) (.seq (.block (.seq (.any (.loc 0 (.loc 2 (.loc 4 (.st 3 224 (.loc 5 (.st 6 128 (.last 1 (.loc 7 .done))))))))) (.cond (.seq .leaf .leaf) .leaf))) .leaf))))) (.seq .leaf (.cond (.seq .leaf (.block (.loop [(7, (.int .i64))] (.seq (.seq .leaf (.cond .leaf .leaf)) (.seq (.block (.seq (.any (.loc 0 (.loc 2 (.loc 4 (.st 3 224 (.loc 5 (.st 6 128 (.last 1 (.loc 7 .done))))))))) (.cond (.seq .leaf .leaf) .leaf))) .leaf))))) (.seq .leaf (.cond (.seq .leaf (.block (.loop [(8, (.int .i64))] (.seq (.seq .leaf (.cond .leaf .leaf)) (.seq (.block (.seq (.any (.loc 0 (.loc 2 (.loc 4 (.st 3 480 (.loc 5 (.st 6 384 (.last 1 (.last 7 (.loc 8 .done)))))))))) (.cond (.seq .leaf .leaf) .leaf))) .leaf))))) .leaf)))))))))) (.seq .leaf .leaf)))
theorem law17_back.eq (r0 : Option Addr) (d1 : Array Value) (R : Value → Heap → Prop) (h : Heap) : law17_back.body r0 d1 R h = evFn Try.prog Try.f30 law17_back.ann [(.pointer r0), (.agg d1)] R h := by kernel_rfl
theorem law17_back.calls {r0 : Option Addr} {d1 : Array Value} {R : Value → Heap → Prop} {h : Heap} (H : law17_back.body r0 d1 R h) : HC Try.prog F.law17_back #[(.pointer r0), (.agg d1)] R h :=
  evFn_sound mixed Try.func30 (by kernel_rfl) (law17_back.eq r0 d1 R h ▸ H)

/-! zugzwang/zugzwanglaw17.CodecBack -/
def law17_CodecBack.body (l0 : Sl) (at1 : Int) (more2 : Int) (R : Value → Heap → Prop) (h : Heap) : Prop :=
  callK Try.prog .bool F.law17_awake #[] (fun (v_1 : Bool) (h : Heap) =>
  if (!v_1) = true then
  R (.bool false) h
  else
  callK Try.prog (.int .i64) F.law17_size #[(.slice l0.a l0.n l0.c)] (fun (v_2 : Int) (h : Heap) =>
  if (decide (v_2 > 3000)) = true then
  R (.bool true) h
  else
  callK Try.prog .ptr F.codec_New #[] (fun (v_3 : Option Addr) (h : Heap) =>
  loopW (fun X_5 (s_4 : Int) (h : Heap) =>
  if (decide (s_4 < ((l0.n : Int)))) = true then
  idxK l0 s_4 (sizeOfT Try.prog T.zugzwanglaw17_Deed) (fun (a_6 : Addr) =>
  loadAggK (sizeOfT Try.prog T.zugzwanglaw17_Deed) h ((some a_6)) (fun (v_7 : Array Value) =>
  callK Try.prog (.int .i64) F.law17_put #[(.pointer v_3), (.agg v_7)] (fun (v_8 : Int) (h : Heap) =>
  if (v_8 != 0) = true then
  callK Try.prog (Kd.pair .slice (.int .i64)) F.codec_Writer_Out #[(.pointer v_3)] (fun (v_9 : Sl × Int) (h : Heap) =>
  if (v_9.2 == v_8) = true then
  if (((v_9.1.n : Int)) == 0) = true then
  newSlK h 1 #[(.int .i64 1)] T.int (fun (v_10 : Sl) (h : Heap) =>
  callK Try.prog (.int .i64) F.codec_Writer_Byte #[(.pointer v_3), (.slice v_10.a v_10.n v_10.c)] (fun (v_11 : Int) (h : Heap) =>
  if (v_11 == v_8) = true then
  R (.bool (v_8 == 2)) h
  else
  R (.bool false) h) h)
  else
  R (.bool false) h
  else
  R (.bool false) h) h
  else
  X_5 (IntKind.i64.wrap (s_4 + 1)) h) h))
  else
  callK Try.prog (Kd.pair .slice (.int .i64)) F.codec_Writer_Out #[(.pointer v_3)] (fun (v_12 : Sl × Int) (h : Heap) =>
  callK Try.prog (.int .i64) F.kit_Pick #[(.int .i64 at1), (.int .i64 (IntKind.i64.wrap (((v_12.1.n : Int)) + 1)))] (fun (v_13 : Int) (h : Heap) =>
  joinW (fun (s_14 : Option Addr × Option Addr × Option Addr) (h : Heap) =>
  loopW (fun X_16 (s_15 : Int) (h : Heap) =>
  if (decide (s_15 < ((l0.n : Int)))) = true then
  idxK l0 s_15 (sizeOfT Try.prog T.zugzwanglaw17_Deed) (fun (a_17 : Addr) =>
  loadAggK (sizeOfT Try.prog T.zugzwanglaw17_Deed) h ((some a_17)) (fun (v_18 : Array Value) =>
  callK Try.prog .bool F.law17_back #[(.pointer s_14.1), (.agg v_18)] (fun (v_19 : Bool) (h : Heap) =>
  if (!v_19) = true then
  R (.bool false) h
  else
  idxK l0 s_15 (sizeOfT Try.prog T.zugzwanglaw17_Deed) (fun (a_20 : Addr) =>
  loadAggK (sizeOfT Try.prog T.zugzwanglaw17_Deed) h ((some a_20)) (fun (v_21 : Array Value) =>
  callK Try.prog .bool F.law17_back #[(.pointer s_14.2.2), (.agg v_21)] (fun (v_22 : Bool) (h : Heap) =>
  if (!v_22) = true then
  R (.bool false) h
  else
  X_16 (IntKind.i64.wrap (s_15 + 1)) h) h))) h))
  else
  joinW (fun (s_23 : Unit) (h : Heap) =>
  if (v_12.2 == 0) = true then
  callK Try.prog (.int .i64) F.codec_Reader_End #[(.pointer s_14.1)] (fun (v_24 : Int) (h : Heap) =>
  if (v_24 == 0) = true then
  callK Try.prog (.int .i64) F.codec_Reader_Left #[(.pointer s_14.1)] (fun (v_25 : Int) (h : Heap) =>
  if (v_25 == 0) = true then
  callK Try.prog (.int .i64) F.codec_Reader_End #[(.pointer s_14.2.2)] (fun (v_26 : Int) (h : Heap) =>
  if (v_26 == 4) = true then
  callK Try.prog (.int .i64) F.codec_Reader_Left #[(.pointer s_14.2.2)] (fun (v_27 : Int) (h : Heap) =>
  if (v_27 == 1) = true then
  if (v_13 == ((v_12.1.n : Int))) = true then
  R (.bool true) h
  else
  callK Try.prog (.int .i64) F.codec_Reader_End #[(.pointer s_14.2.1)] (fun (v_28 : Int) (h : Heap) =>
  R (.bool (v_28 == 4)) h) h
  else
  R (.bool false) h) h
  else
  R (.bool false) h) h
  else
  R (.bool false) h) h
  else
  R (.bool false) h) h
  else
  R (.bool false) h)
  (fun J_29 =>
  loopW (fun X_31 (s_30 : Int) (h : Heap) =>
  if (decide (s_30 < ((l0.n : Int)))) = true then
  if (decide (v_13 < ((v_12.1.n : Int)))) = true then
  idxK l0 s_30 (sizeOfT Try.prog T.zugzwanglaw17_Deed) (fun (a_32 : Addr) =>
  loadAggK (sizeOfT Try.prog T.zugzwanglaw17_Deed) h ((some a_32)) (fun (v_33 : Array Value) =>
  callK Try.prog .bool F.law17_back #[(.pointer s_14.2.1), (.agg v_33)] (fun (v_34 : Bool) (h : Heap) =>
  if (!v_34) = true then
  J_29 () h
  else
  X_31 (IntKind.i64.wrap (s_30 + 1)) h) h))
  else
  J_29 () h
  else
  J_29 () h) 0 h)) 0 h)
  (fun J_35 =>
  sliceK v_12.1 none (some v_13) none (sizeOfT Try.prog T.uint8) (fun (v_36 : Sl) =>
  ((callK Try.prog .ptr F.codec_Read #[(.slice v_12.1.a v_12.1.n v_12.1.c)] (fun (v_37 : Option Addr) (h : Heap) =>
  ((callK Try.prog .ptr F.codec_Read #[(.slice v_36.a v_36.n v_36.c)] (fun (v_38 : Option Addr) (h : Heap) =>
  ((newSlK h 0 #[] T.uint8 (fun (v_39 : Sl) (h : Heap) =>
  ((opK Try.prog .slice (Builtin.append_ #[T.sl_uint8, T.sl_uint8] T.sl_uint8 #[(.slice v_39.a v_39.n v_39.c), (.slice v_12.1.a v_12.1.n v_12.1.c)]) (fun (v_40 : Sl) (h : Heap) =>
  newSlK h 1 #[(.int .u8 more2)] T.uint8 (fun (v_41 : Sl) (h : Heap) =>
  opK Try.prog .slice (Builtin.append_ #[T.sl_uint8, T.sl_uint8] T.sl_uint8 #[(.slice v_40.a v_40.n v_40.c), (.slice v_41.a v_41.n v_41.c)]) (fun (v_42 : Sl) (h : Heap) =>
  callK Try.prog .ptr F.codec_Read #[(.slice v_42.a v_42.n v_42.c)] (fun (v_43 : Option Addr) (h : Heap) =>
  J_35 (v_37, v_38, v_43) h) h) h)) h) ∧
  (newSlK h 1 #[(.int .u8 more2)] T.uint8 (fun (v_44 : Sl) (h : Heap) =>
  opK Try.prog .slice (Builtin.append_ #[T.sl_uint8, T.sl_uint8] T.sl_uint8 #[(.slice v_39.a v_39.n v_39.c), (.slice v_12.1.a v_12.1.n v_12.1.c)]) (fun (v_45 : Sl) (h : Heap) =>
  opK Try.prog .slice (Builtin.append_ #[T.sl_uint8, T.sl_uint8] T.sl_uint8 #[(.slice v_45.a v_45.n v_45.c), (.slice v_44.a v_44.n v_44.c)]) (fun (v_46 : Sl) (h : Heap) =>
  callK Try.prog .ptr F.codec_Read #[(.slice v_46.a v_46.n v_46.c)] (fun (v_47 : Option Addr) (h : Heap) =>
  J_35 (v_37, v_38, v_47) h) h) h) h))))) ∧
  (newSlK h 1 #[(.int .u8 more2)] T.uint8 (fun (v_48 : Sl) (h : Heap) =>
  newSlK h 0 #[] T.uint8 (fun (v_49 : Sl) (h : Heap) =>
  opK Try.prog .slice (Builtin.append_ #[T.sl_uint8, T.sl_uint8] T.sl_uint8 #[(.slice v_49.a v_49.n v_49.c), (.slice v_12.1.a v_12.1.n v_12.1.c)]) (fun (v_50 : Sl) (h : Heap) =>
  opK Try.prog .slice (Builtin.append_ #[T.sl_uint8, T.sl_uint8] T.sl_uint8 #[(.slice v_50.a v_50.n v_50.c), (.slice v_48.a v_48.n v_48.c)]) (fun (v_51 : Sl) (h : Heap) =>
  callK Try.prog .ptr F.codec_Read #[(.slice v_51.a v_51.n v_51.c)] (fun (v_52 : Option Addr) (h : Heap) =>
  J_35 (v_37, v_38, v_52) h) h) h) h))))) h) ∧
  (((newSlK h 0 #[] T.uint8 (fun (v_53 : Sl) (h : Heap) =>
  ((callK Try.prog .ptr F.codec_Read #[(.slice v_36.a v_36.n v_36.c)] (fun (v_54 : Option Addr) (h : Heap) =>
  ((opK Try.prog .slice (Builtin.append_ #[T.sl_uint8, T.sl_uint8] T.sl_uint8 #[(.slice v_53.a v_53.n v_53.c), (.slice v_12.1.a v_12.1.n v_12.1.c)]) (fun (v_55 : Sl) (h : Heap) =>
  newSlK h 1 #[(.int .u8 more2)] T.uint8 (fun (v_56 : Sl) (h : Heap) =>
  opK Try.prog .slice (Builtin.append_ #[T.sl_uint8, T.sl_uint8] T.sl_uint8 #[(.slice v_55.a v_55.n v_55.c), (.slice v_56.a v_56.n v_56.c)]) (fun (v_57 : Sl) (h : Heap) =>
  callK Try.prog .ptr F.codec_Read #[(.slice v_57.a v_57.n v_57.c)] (fun (v_58 : Option Addr) (h : Heap) =>
  J_35 (v_37, v_54, v_58) h) h) h)) h) ∧
  (newSlK h 1 #[(.int .u8 more2)] T.uint8 (fun (v_59 : Sl) (h : Heap) =>
  opK Try.prog .slice (Builtin.append_ #[T.sl_uint8, T.sl_uint8] T.sl_uint8 #[(.slice v_53.a v_53.n v_53.c), (.slice v_12.1.a v_12.1.n v_12.1.c)]) (fun (v_60 : Sl) (h : Heap) =>
  opK Try.prog .slice (Builtin.append_ #[T.sl_uint8, T.sl_uint8] T.sl_uint8 #[(.slice v_60.a v_60.n v_60.c), (.slice v_59.a v_59.n v_59.c)]) (fun (v_61 : Sl) (h : Heap) =>
  callK Try.prog .ptr F.codec_Read #[(.slice v_61.a v_61.n v_61.c)] (fun (v_62 : Option Addr) (h : Heap) =>
  J_35 (v_37, v_54, v_62) h) h) h) h)))) h) ∧
  (newSlK h 1 #[(.int .u8 more2)] T.uint8 (fun (v_63 : Sl) (h : Heap) =>
  callK Try.prog .ptr F.codec_Read #[(.slice v_36.a v_36.n v_36.c)] (fun (v_64 : Option Addr) (h : Heap) =>
  opK Try.prog .slice (Builtin.append_ #[T.sl_uint8, T.sl_uint8] T.sl_uint8 #[(.slice v_53.a v_53.n v_53.c), (.slice v_12.1.a v_12.1.n v_12.1.c)]) (fun (v_65 : Sl) (h : Heap) =>
  opK Try.prog .slice (Builtin.append_ #[T.sl_uint8, T.sl_uint8] T.sl_uint8 #[(.slice v_65.a v_65.n v_65.c), (.slice v_63.a v_63.n v_63.c)]) (fun (v_66 : Sl) (h : Heap) =>
  callK Try.prog .ptr F.codec_Read #[(.slice v_66.a v_66.n v_66.c)] (fun (v_67 : Option Addr) (h : Heap) =>
  J_35 (v_37, v_64, v_67) h) h) h) h) h))))) ∧
  (newSlK h 1 #[(.int .u8 more2)] T.uint8 (fun (v_68 : Sl) (h : Heap) =>
  ((callK Try.prog .ptr F.codec_Read #[(.slice v_36.a v_36.n v_36.c)] (fun (v_69 : Option Addr) (h : Heap) =>
  newSlK h 0 #[] T.uint8 (fun (v_70 : Sl) (h : Heap) =>
  opK Try.prog .slice (Builtin.append_ #[T.sl_uint8, T.sl_uint8] T.sl_uint8 #[(.slice v_70.a v_70.n v_70.c), (.slice v_12.1.a v_12.1.n v_12.1.c)]) (fun (v_71 : Sl) (h : Heap) =>
  opK Try.prog .slice (Builtin.append_ #[T.sl_uint8, T.sl_uint8] T.sl_uint8 #[(.slice v_71.a v_71.n v_71.c), (.slice v_68.a v_68.n v_68.c)]) (fun (v_72 : Sl) (h : Heap) =>
  callK Try.prog .ptr F.codec_Read #[(.slice v_72.a v_72.n v_72.c)] (fun (v_73 : Option Addr) (h : Heap) =>
  J_35 (v_37, v_69, v_73) h) h) h) h)) h) ∧
  (newSlK h 0 #[] T.uint8 (fun (v_74 : Sl) (h : Heap) =>
  callK Try.prog .ptr F.codec_Read #[(.slice v_36.a v_36.n v_36.c)] (fun (v_75 : Option Addr) (h : Heap) =>
  opK Try.prog .slice (Builtin.append_ #[T.sl_uint8, T.sl_uint8] T.sl_uint8 #[(.slice v_74.a v_74.n v_74.c), (.slice v_12.1.a v_12.1.n v_12.1.c)]) (fun (v_76 : Sl) (h : Heap) =>
  opK Try.prog .slice (Builtin.append_ #[T.sl_uint8, T.sl_uint8] T.sl_uint8 #[(.slice v_76.a v_76.n v_76.c), (.slice v_68.a v_68.n v_68.c)]) (fun (v_77 : Sl) (h : Heap) =>
  callK Try.prog .ptr F.codec_Read #[(.slice v_77.a v_77.n v_77.c)] (fun (v_78 : Option Addr) (h : Heap) =>
  J_35 (v_37, v_75, v_78) h) h) h) h) h))))))))) h) ∧
  (((newSlK h 0 #[] T.uint8 (fun (v_79 : Sl) (h : Heap) =>
  ((callK Try.prog .ptr F.codec_Read #[(.slice v_12.1.a v_12.1.n v_12.1.c)] (fun (v_80 : Option Addr) (h : Heap) =>
  ((callK Try.prog .ptr F.codec_Read #[(.slice v_36.a v_36.n v_36.c)] (fun (v_81 : Option Addr) (h : Heap) =>
  ((opK Try.prog .slice (Builtin.append_ #[T.sl_uint8, T.sl_uint8] T.sl_uint8 #[(.slice v_79.a v_79.n v_79.c), (.slice v_12.1.a v_12.1.n v_12.1.c)]) (fun (v_82 : Sl) (h : Heap) =>
  newSlK h 1 #[(.int .u8 more2)] T.uint8 (fun (v_83 : Sl) (h : Heap) =>
  opK Try.prog .slice (Builtin.append_ #[T.sl_uint8, T.sl_uint8] T.sl_uint8 #[(.slice v_82.a v_82.n v_82.c), (.slice v_83.a v_83.n v_83.c)]) (fun (v_84 : Sl) (h : Heap) =>
  callK Try.prog .ptr F.codec_Read #[(.slice v_84.a v_84.n v_84.c)] (fun (v_85 : Option Addr) (h : Heap) =>
  J_35 (v_80, v_81, v_85) h) h) h)) h) ∧
  (newSlK h 1 #[(.int .u8 more2)] T.uint8 (fun (v_86 : Sl) (h : Heap) =>
  opK Try.prog .slice (Builtin.append_ #[T.sl_uint8, T.sl_uint8] T.sl_uint8 #[(.slice v_79.a v_79.n v_79.c), (.slice v_12.1.a v_12.1.n v_12.1.c)]) (fun (v_87 : Sl) (h : Heap) =>
  opK Try.prog .slice (Builtin.append_ #[T.sl_uint8, T.sl_uint8] T.sl_uint8 #[(.slice v_87.a v_87.n v_87.c), (.slice v_86.a v_86.n v_86.c)]) (fun (v_88 : Sl) (h : Heap) =>
  callK Try.prog .ptr F.codec_Read #[(.slice v_88.a v_88.n v_88.c)] (fun (v_89 : Option Addr) (h : Heap) =>
  J_35 (v_80, v_81, v_89) h) h) h) h)))) h) ∧
  (newSlK h 1 #[(.int .u8 more2)] T.uint8 (fun (v_90 : Sl) (h : Heap) =>
  callK Try.prog .ptr F.codec_Read #[(.slice v_36.a v_36.n v_36.c)] (fun (v_91 : Option Addr) (h : Heap) =>
  opK Try.prog .slice (Builtin.append_ #[T.sl_uint8, T.sl_uint8] T.sl_uint8 #[(.slice v_79.a v_79.n v_79.c), (.slice v_12.1.a v_12.1.n v_12.1.c)]) (fun (v_92 : Sl) (h : Heap) =>
  opK Try.prog .slice (Builtin.append_ #[T.sl_uint8, T.sl_uint8] T.sl_uint8 #[(.slice v_92.a v_92.n v_92.c), (.slice v_90.a v_90.n v_90.c)]) (fun (v_93 : Sl) (h : Heap) =>
  callK Try.prog .ptr F.codec_Read #[(.slice v_93.a v_93.n v_93.c)] (fun (v_94 : Option Addr) (h : Heap) =>
  J_35 (v_80, v_91, v_94) h) h) h) h) h)))) h) ∧
  (newSlK h 1 #[(.int .u8 more2)] T.uint8 (fun (v_95 : Sl) (h : Heap) =>
  callK Try.prog .ptr F.codec_Read #[(.slice v_12.1.a v_12.1.n v_12.1.c)] (fun (v_96 : Option Addr) (h : Heap) =>
  callK Try.prog .ptr F.codec_Read #[(.slice v_36.a v_36.n v_36.c)] (fun (v_97 : Option Addr) (h : Heap) =>
  opK Try.prog .slice (Builtin.append_ #[T.sl_uint8, T.sl_uint8] T.sl_uint8 #[(.slice v_79.a v_79.n v_79.c), (.slice v_12.1.a v_12.1.n v_12.1.c)]) (fun (v_98 : Sl) (h : Heap) =>
  opK Try.prog .slice (Builtin.append_ #[T.sl_uint8, T.sl_uint8] T.sl_uint8 #[(.slice v_98.a v_98.n v_98.c), (.slice v_95.a v_95.n v_95.c)]) (fun (v_99 : Sl) (h : Heap) =>
  callK Try.prog .ptr F.codec_Read #[(.slice v_99.a v_99.n v_99.c)] (fun (v_100 : Option Addr) (h : Heap) =>
  J_35 (v_96, v_97, v_100) h) h) h) h) h) h))))) ∧
  (newSlK h 1 #[(.int .u8 more2)] T.uint8 (fun (v_101 : Sl) (h : Heap) =>
  ((callK Try.prog .ptr F.codec_Read #[(.slice v_12.1.a v_12.1.n v_12.1.c)] (fun (v_102 : Option Addr) (h : Heap) =>
  ((callK Try.prog .ptr F.codec_Read #[(.slice v_36.a v_36.n v_36.c)] (fun (v_103 : Option Addr) (h : Heap) =>
  newSlK h 0 #[] T.uint8 (fun (v_104 : Sl) (h : Heap) =>
  opK Try.prog .slice (Builtin.append_ #[T.sl_uint8, T.sl_uint8] T.sl_uint8 #[(.slice v_104.a v_104.n v_104.c), (.slice v_12.1.a v_12.1.n v_12.1.c)]) (fun (v_105 : Sl) (h : Heap) =>
  opK Try.prog .slice (Builtin.append_ #[T.sl_uint8, T.sl_uint8] T.sl_uint8 #[(.slice v_105.a v_105.n v_105.c), (.slice v_101.a v_101.n v_101.c)]) (fun (v_106 : Sl) (h : Heap) =>
  callK Try.prog .ptr F.codec_Read #[(.slice v_106.a v_106.n v_106.c)] (fun (v_107 : Option Addr) (h : Heap) =>
  J_35 (v_102, v_103, v_107) h) h) h) h)) h) ∧
  (newSlK h 0 #[] T.uint8 (fun (v_108 : Sl) (h : Heap) =>
  callK Try.prog .ptr F.codec_Read #[(.slice v_36.a v_36.n v_36.c)] (fun (v_109 : Option Addr) (h : Heap) =>
  opK Try.prog .slice (Builtin.append_ #[T.sl_uint8, T.sl_uint8] T.sl_uint8 #[(.slice v_108.a v_108.n v_108.c), (.slice v_12.1.a v_12.1.n v_12.1.c)]) (fun (v_110 : Sl) (h : Heap) =>
  opK Try.prog .slice (Builtin.append_ #[T.sl_uint8, T.sl_uint8] T.sl_uint8 #[(.slice v_110.a v_110.n v_110.c), (.slice v_101.a v_101.n v_101.c)]) (fun (v_111 : Sl) (h : Heap) =>
  callK Try.prog .ptr F.codec_Read #[(.slice v_111.a v_111.n v_111.c)] (fun (v_112 : Option Addr) (h : Heap) =>
  J_35 (v_102, v_109, v_112) h) h) h) h) h)))) h) ∧
  (newSlK h 0 #[] T.uint8 (fun (v_113 : Sl) (h : Heap) =>
  callK Try.prog .ptr F.codec_Read #[(.slice v_12.1.a v_12.1.n v_12.1.c)] (fun (v_114 : Option Addr) (h : Heap) =>
  callK Try.prog .ptr F.codec_Read #[(.slice v_36.a v_36.n v_36.c)] (fun (v_115 : Option Addr) (h : Heap) =>
  opK Try.prog .slice (Builtin.append_ #[T.sl_uint8, T.sl_uint8] T.sl_uint8 #[(.slice v_113.a v_113.n v_113.c), (.slice v_12.1.a v_12.1.n v_12.1.c)]) (fun (v_116 : Sl) (h : Heap) =>
  opK Try.prog .slice (Builtin.append_ #[T.sl_uint8, T.sl_uint8] T.sl_uint8 #[(.slice v_116.a v_116.n v_116.c), (.slice v_101.a v_101.n v_101.c)]) (fun (v_117 : Sl) (h : Heap) =>
  callK Try.prog .ptr F.codec_Read #[(.slice v_117.a v_117.n v_117.c)] (fun (v_118 : Option Addr) (h : Heap) =>
  J_35 (v_114, v_115, v_118) h) h) h) h) h) h))))))))))) h) h) 0 h) h) h) h
def law17_CodecBack.ann : Ann := (.seq .leaf (.seq (.seq .leaf (.cond (.seq .leaf .leaf) .leaf)) (.seq (.seq .leaf (.cond (.seq .leaf .leaf) .leaf)) (.seq .leaf (.seq (.seq .leaf (.block (.loop [(8, (.int .i64))] (.seq (.seq .leaf (.cond .leaf .leaf)) (.seq (.block (.seq .leaf (.seq .leaf (.cond (.seq .leaf (.seq .leaf .leaf)) .leaf)))) .leaf))))) (.seq .leaf (.seq .leaf (.join [(15, .ptr), (16, .ptr), (17, .ptr)] (.any (.loc 0 (.loc 2 (.loc 3 (.loc 4 (.loc 7 (.loc 9 (.alt 1 (.alt 5 (.alt 6 (.alt 8 (.last 10 (.last 11 (.last 12 (.loc 13 (.loc 14 (.loc 15 .done)))))) (.last 10 (.last 8 (.last 11 (.last 12 (.loc 13 (.loc 14 (.loc 15 .done)))))))) (.last 10 (.last 6 (.last 8 (.last 11 (.last 12 (.loc 13 (.loc 14 (.loc 15 .done))))))))) (.alt 6 (.alt 5 (.alt 8 (.last 10 (.last 11 (.last 12 (.loc 13 (.loc 14 (.loc 15 .done)))))) (.last 10 (.last 8 (.last 11 (.last 12 (.loc 13 (.loc 14 (.loc 15 .done)))))))) (.last 10 (.last 5 (.last 8 (.last 11 (.last 12 (.loc 13 (.loc 14 (.loc 15 .done))))))))) (.last 10 (.alt 5 (.last 6 (.last 8 (.last 11 (.last 12 (.loc 13 (.loc 14 (.loc 15 .done))))))) (.last 6 (.last 5 (.last 8 (.last 11 (.last 12 (.loc 13 (.loc 14 (.loc 15 .done)))))))))))) (.alt 6 (.alt 1 (.alt 5 (.alt 8 (.last 10 (.last 11 (.last 12 (.loc 13 (.loc 14 (.loc 15 .done)))))) (.last 10 (.last 8 (.last 11 (.last 12 (.loc 13 (.loc 14 (.loc 15 .done)))))))) (.last 10 (.last 5 (.last 8 (.last 11 (.last 12 (.loc 13 (.loc 14 (.loc 15 .done))))))))) (.last 10 (.last 1 (.last 5 (.last 8 (.last 11 (.last 12 (.loc 13 (.loc 14 (.loc 15 .done)))))))))) (.last 10 (.alt 1 (.alt 5 (.last 6 (.last 8 (.last 11 (.last 12 (.loc 13 (.loc 14 (.loc 15 .done))))))) (.last 6 (.last 5 (.last 8 (.last 11 (.last 12 (.loc 13 (.loc 14 (.loc 15 .done))))))))) (.last 6 (.last 1 (.last 5 (.last 8 (.last 11 (.last 12 (.loc 13 (.loc 14 (.loc 15 .done)))))))))))))))))))) (.seq (.seq .leaf (.block (.loop [(18, (.int .i64))] (.seq (.seq .leaf (.cond .leaf .leaf)) (.seq (.block (.seq .leaf (.cond (.seq .leaf .leaf) .leaf))) .leaf))))) (.join [] (.seq .leaf (.block (.loop [(19, (.int .i64))] (.seq (.seq .leaf (.cond .leaf .leaf)) (.seq (.block (.seq .leaf (.cond .leaf .leaf))) .leaf))))) (.seq .leaf .leaf)))))))))))
theorem law17_CodecBack.eq (l0 : Sl) (at1 : Int) (more2 : Int) (R : Value → Heap → Prop) (h : Heap) : law17_CodecBack.body l0 at1 more2 R h = evFn Try.prog Try.f4 law17_CodecBack.ann [(.slice l0.a l0.n l0.c), (.int .i64 at1), (.int .u8 more2)] R h := by kernel_rfl
theorem law17_CodecBack.calls {l0 : Sl} {at1 : Int} {more2 : Int} {R : Value → Heap → Prop} {h : Heap} (H : law17_CodecBack.body l0 at1 more2 R h) : HC Try.prog F.law17_CodecBack #[(.slice l0.a l0.n l0.c), (.int .i64 at1), (.int .u8 more2)] R h :=
  evFn_sound mixed Try.func4 (by kernel_rfl) (law17_CodecBack.eq l0 at1 more2 R h ▸ H)

/-! zugzwang/zugzwanglaw17.CodecOne -/
def law17_CodecOne.body (b0 : Sl) (l1 : Sl) (R : Value → Heap → Prop) (h : Heap) : Prop :=
  callK Try.prog .bool F.law17_awake #[] (fun (v_1 : Bool) (h : Heap) =>
  if (!v_1) = true then
  R (.bool false) h
  else
  if (decide ((IntKind.i64.wrap (((b0.n : Int)) + ((l1.n : Int)))) > 3000)) = true then
  R (.bool true) h
  else
  callK Try.prog .ptr F.codec_Read #[(.slice b0.a b0.n b0.c)] (fun (v_2 : Option Addr) (h : Heap) =>
  callK Try.prog .ptr F.codec_New #[] (fun (v_3 : Option Addr) (h : Heap) =>
  loopW (fun X_5 (s_4 : Int) (h : Heap) =>
  if (decide (s_4 < ((l1.n : Int)))) = true then
  idxK l1 s_4 (sizeOfT Try.prog T.int) (fun (a_6 : Addr) =>
  loadK (.int .i64) h ((some a_6)) (fun (v_7 : Int) =>
  callK Try.prog (.int .i64) F.kit_Pick #[(.int .i64 v_7), (.int .i64 4)] (fun (v_8 : Int) (h : Heap) =>
  if (v_8 == 0) = true then
  callK Try.prog (.int .i64) F.codec_Reader_Byte #[(.pointer v_2)] (fun (v_9 : Int) (h : Heap) =>
  newSlK h 1 #[(.int .i64 v_9)] T.int (fun (v_10 : Sl) (h : Heap) =>
  callK Try.prog (.int .i64) F.codec_Writer_Byte #[(.pointer v_3), (.slice v_10.a v_10.n v_10.c)] (fun (v_11 : Int) (h : Heap) =>
  X_5 (IntKind.i64.wrap (s_4 + 1)) h) h)) h
  else
  if (v_8 == 1) = true then
  callK Try.prog (.int .i64) F.codec_Reader_Number #[(.pointer v_2)] (fun (v_12 : Int) (h : Heap) =>
  newSlK h 1 #[(.int .i64 v_12)] T.int (fun (v_13 : Sl) (h : Heap) =>
  callK Try.prog (.int .i64) F.codec_Writer_Number #[(.pointer v_3), (.slice v_13.a v_13.n v_13.c)] (fun (v_14 : Int) (h : Heap) =>
  X_5 (IntKind.i64.wrap (s_4 + 1)) h) h)) h
  else
  if (v_8 == 2) = true then
  callK Try.prog .agg F.codec_Reader_Tag #[(.pointer v_2)] (fun (v_15 : Array Value) (h : Heap) =>
  opK Try.prog .slice (Instr.buildSlice T.sl_api_Tag 1 #[(0, (.agg v_15))]) (fun (v_16 : Sl) (h : Heap) =>
  callK Try.prog (.int .i64) F.codec_Writer_Tag #[(.pointer v_3), (.slice v_16.a v_16.n v_16.c)] (fun (v_17 : Int) (h : Heap) =>
  X_5 (IntKind.i64.wrap (s_4 + 1)) h) h) h) h
  else
  if (v_8 == 3) = true then
  callK Try.prog .slice F.codec_Reader_Run #[(.pointer v_2)] (fun (v_18 : Sl) (h : Heap) =>
  newSlK h 1 #[(.slice v_18.a v_18.n v_18.c)] T.sl_uint8 (fun (v_19 : Sl) (h : Heap) =>
  callK Try.prog (.int .i64) F.codec_Writer_Run #[(.pointer v_3), (.slice v_19.a v_19.n v_19.c)] (fun (v_20 : Int) (h : Heap) =>
  X_5 (IntKind.i64.wrap (s_4 + 1)) h) h)) h
  else
  X_5 (IntKind.i64.wrap (s_4 + 1)) h) h))
  else
  callK Try.prog (Kd.pair .slice (.int .i64)) F.codec_Writer_Out #[(.pointer v_3)] (fun (v_21 : Sl × Int) (h : Heap) =>
  callK Try.prog (.int .i64) F.codec_Reader_End #[(.pointer v_2)] (fun (v_22 : Int) (h : Heap) =>
  if (v_22 != 0) = true then
  R (.bool true) h
  else
  if (v_21.2 == 0) = true then
  callK Try.prog .bool F.kit_SameBytes #[(.slice v_21.1.a v_21.1.n v_21.1.c), (.slice b0.a b0.n b0.c)] (fun (v_23 : Bool) (h : Heap) =>
  R (.bool v_23) h) h
  else
  R (.bool false) h) h) h) 0 h) h) h) h
def law17_CodecOne.ann : Ann := (.seq .leaf (.seq (.seq .leaf (.cond (.seq .leaf .leaf) .leaf)) (.seq (.seq .leaf (.cond (.seq .leaf .leaf) .leaf)) (.seq .leaf (.seq (.seq .leaf (.block (.loop [(7, (.int .i64))] (.seq (.seq .leaf (.cond .leaf .leaf)) (.seq (.block (.seq .leaf (.block (.seq .leaf (.cond .leaf (.seq .leaf (.cond .leaf (.seq .leaf (.cond .leaf (.seq .leaf (.cond .leaf .leaf))))))))))) .leaf))))) (.seq .leaf (.seq (.seq .leaf (.cond (.seq .leaf .leaf) .leaf)) (.seq .leaf .leaf))))))))
theorem law17_CodecOne.eq (b0 : Sl) (l1 : Sl) (R : Value → Heap → Prop) (h : Heap) : law17_CodecOne.body b0 l1 R h = evFn Try.prog Try.f5 law17_CodecOne.ann [(.slice b0.a b0.n b0.c), (.slice l1.a l1.n l1.c)] R h := by kernel_rfl
theorem law17_CodecOne.calls {b0 : Sl} {l1 : Sl} {R : Value → Heap → Prop} {h : Heap} (H : law17_CodecOne.body b0 l1 R h) : HC Try.prog F.law17_CodecOne #[(.slice b0.a b0.n b0.c), (.slice l1.a l1.n l1.c)] R h :=
  evFn_sound mixed Try.func5 (by kernel_rfl) (law17_CodecOne.eq b0 l1 R h ▸ H)

end Go.Proofs.Ytejpfoccooodbaa
