import Derived.Test.YtgdkaljbjhbeiaaSig
set_option linter.unusedVariables false
set_option maxRecDepth 100000
namespace Go.Proofs.Ytgdkaljbjhbeiaa
open Go.Ev
/-! slices.Clone[[]byte,byte] -/
def slices_Clone_byte_byte.body (s0 : Sl) (R : Value → Heap → Prop) (h : Heap) : Prop :=
  if s0.a.isNone = true then
  R (.slice none 0 0) h
  else
  newSlK h 0 #[] T.uint8 (fun (v_1 : Sl) (h : Heap) =>
  opK Try.prog .slice (Builtin.append_ #[T.sl_uint8, T.sl_uint8] T.sl_uint8 #[(.slice v_1.a v_1.n v_1.c), (.slice s0.a s0.n s0.c)]) (fun (v_2 : Sl) (h : Heap) =>
  R (.slice v_2.a v_2.n v_2.c) h) h)
def slices_Clone_byte_byte.ann : Ann := (.seq .leaf (.seq (.seq .leaf (.cond (.seq .leaf .leaf) .leaf)) (.seq .leaf .leaf)))
theorem slices_Clone_byte_byte.eq (s0 : Sl) (R : Value → Heap → Prop) (h : Heap) : slices_Clone_byte_byte.body s0 R h = evFn Try.prog Try.f29 slices_Clone_byte_byte.ann [(.slice s0.a s0.n s0.c)] R h := by kernel_rfl
theorem slices_Clone_byte_byte.calls {s0 : Sl} {R : Value → Heap → Prop} {h : Heap} (H : slices_Clone_byte_byte.body s0 R h) : HC Try.prog F.slices_Clone_byte_byte #[(.slice s0.a s0.n s0.c)] R h :=
  evFn_sound mixed Try.func29 (by kernel_rfl) (slices_Clone_byte_byte.eq s0 R h ▸ H)

/-! zugzwang/tags.New -/
def tags_New.body (real0 : Bool) (seed1 : Sl) (R : Value → Heap → Prop) (h : Heap) : Prop :=
  opK Try.prog .map (Instr.makeMap T.map_atags_thing_int none) (fun (v_1 : Option Nat) (h : Heap) =>
  buildK Try.prog (Instr.build T.tags_book #[(0, (.map v_1))]) (fun (v_2 : Array Value) =>
  callK Try.prog .slice F.slices_Clone_byte_byte #[(.slice seed1.a seed1.n seed1.c)] (fun (v_3 : Sl) (h : Heap) =>
  buildK Try.prog (Instr.build T.tags_Maker #[(0, (.agg v_2)), (1, (.bool real0)), (2, (.slice v_3.a v_3.n v_3.c))]) (fun (v_4 : Array Value) =>
  newK h v_4 T.tags_Maker (fun (v_5 : Option Addr) (h : Heap) =>
  R (.pointer v_5) h))) h)) h
def tags_New.ann : Ann := (.seq .leaf (.seq .leaf .leaf))
theorem tags_New.eq (real0 : Bool) (seed1 : Sl) (R : Value → Heap → Prop) (h : Heap) : tags_New.body real0 seed1 R h = evFn Try.prog Try.f9 tags_New.ann [(.bool real0), (.slice seed1.a seed1.n seed1.c)] R h := by kernel_rfl
theorem tags_New.calls {real0 : Bool} {seed1 : Sl} {R : Value → Heap → Prop} {h : Heap} (H : tags_New.body real0 seed1 R h) : HC Try.prog F.tags_New #[(.bool real0), (.slice seed1.a seed1.n seed1.c)] R h :=
  evFn_sound mixed Try.func9 (by kernel_rfl) (tags_New.eq real0 seed1 R h ▸ H)

/-! (*zugzwang/tags.Maker).there -/
def tags_Maker_there.body (m0 : Option Addr) (R : Value → Heap → Prop) (h : Heap) : Prop :=
  if (!m0.isNone) = true then
  derefK m0 (fun (a_1 : Addr) =>
  fldK ((some a_1)) 0 (fun (a_2 : Addr) =>
  fldK ((some a_2)) 0 (fun (a_3 : Addr) =>
  loadK .map h ((some a_3)) (fun (v_4 : Option Nat) =>
  R (.bool (!v_4.isNone)) h))))
  else
  R (.bool false) h
def tags_Maker_there.ann : Ann := (.seq .leaf (.seq .leaf .leaf))
theorem tags_Maker_there.eq (m0 : Option Addr) (R : Value → Heap → Prop) (h : Heap) : tags_Maker_there.body m0 R h = evFn Try.prog Try.f31 tags_Maker_there.ann [(.pointer m0)] R h := by kernel_rfl
theorem tags_Maker_there.calls {m0 : Option Addr} {R : Value → Heap → Prop} {h : Heap} (H : tags_Maker_there.body m0 R h) : HC Try.prog F.tags_Maker_there #[(.pointer m0)] R h :=
  evFn_sound mixed Try.func31 (by kernel_rfl) (tags_Maker_there.eq m0 R h ▸ H)

/-! (*zugzwang/tags.Maker).Len -/
def tags_Maker_Len.body (m0 : Option Addr) (R : Value → Heap → Prop) (h : Heap) : Prop :=
  callK Try.prog .bool F.tags_Maker_there #[(.pointer m0)] (fun (v_1 : Bool) (h : Heap) =>
  if (!v_1) = true then
  R (.int .i64 0) h
  else
  derefK m0 (fun (a_2 : Addr) =>
  fldK ((some a_2)) 0 (fun (a_3 : Addr) =>
  fldK ((some a_3)) 0 (fun (a_4 : Addr) =>
  loadK .map h ((some a_4)) (fun (v_5 : Option Nat) =>
  quietK Try.prog (.int .i64) (Builtin.len_ #[T.map_atags_thing_int] T.int #[(.map v_5)]) (fun (v_6 : Int) =>
  R (.int .i64 v_6) h) h))))) h
def tags_Maker_Len.ann : Ann := (.seq .leaf (.seq (.seq .leaf (.cond (.seq .leaf .leaf) .leaf)) (.seq .leaf .leaf)))
theorem tags_Maker_Len.eq (m0 : Option Addr) (R : Value → Heap → Prop) (h : Heap) : tags_Maker_Len.body m0 R h = evFn Try.prog Try.f14 tags_Maker_Len.ann [(.pointer m0)] R h := by kernel_rfl
theorem tags_Maker_Len.calls {m0 : Option Addr} {R : Value → Heap → Prop} {h : Heap} (H : tags_Maker_Len.body m0 R h) : HC Try.prog F.tags_Maker_Len #[(.pointer m0)] R h :=
  evFn_sound mixed Try.func14 (by kernel_rfl) (tags_Maker_Len.eq m0 R h ▸ H)

/-! slices.Grow[[]byte,byte] -/
def slices_Grow_byte_byte.body (s0 : Sl) (n1 : Int) (R : Value → Heap → Prop) (h : Heap) : Prop :=
  if (decide (n1 < 0)) = true then
  opK Try.prog .any (Instr.makeInterface T.string (.string ((⟨#[99, 97, 110, 110, 111, 116, 32, 98, 101, 32, 110, 101, 103, 97, 116, 105, 118, 101]⟩ : ByteArray)))) (fun (v_1 : Value) (h : Heap) =>
  False) h
  else
  if (decide ((IntKind.i64.wrap (n1 - (IntKind.i64.wrap (((s0.c : Int)) - ((s0.n : Int)))))) > 0)) = true then
  sliceK s0 none (some ((s0.c : Int))) none (sizeOfT Try.prog T.uint8) (fun (v_2 : Sl) =>
  opK Try.prog .slice (Builtin.append_ #[T.sl_uint8, T.int] T.sl_uint8 #[(.slice v_2.a v_2.n v_2.c), (.int .i64 (IntKind.i64.wrap (n1 - (IntKind.i64.wrap (((s0.c : Int)) - ((s0.n : Int)))))))]) (fun (v_3 : Sl) (h : Heap) =>
  sliceK v_3 none (some ((s0.n : Int))) none (sizeOfT Try.prog T.uint8) (fun (v_4 : Sl) =>
  R (.slice v_4.a v_4.n v_4.c) h)) h)
  else
  R (.slice s0.a s0.n s0.c) h
def slices_Grow_byte_byte.ann : Ann := (.seq .leaf (.seq (.seq .leaf (.cond .leaf .leaf)) (.seq (.seq .leaf (.seq .leaf (.cond .leaf .leaf))) (.seq .leaf .leaf))))
theorem slices_Grow_byte_byte.eq (s0 : Sl) (n1 : Int) (R : Value → Heap → Prop) (h : Heap) : slices_Grow_byte_byte.body s0 n1 R h = evFn Try.prog Try.f56 slices_Grow_byte_byte.ann [(.slice s0.a s0.n s0.c), (.int .i64 n1)] R h := by kernel_rfl
theorem slices_Grow_byte_byte.calls {s0 : Sl} {n1 : Int} {R : Value → Heap → Prop} {h : Heap} (H : slices_Grow_byte_byte.body s0 n1 R h) : HC Try.prog F.slices_Grow_byte_byte #[(.slice s0.a s0.n s0.c), (.int .i64 n1)] R h :=
  evFn_sound mixed Try.func56 (by kernel_rfl) (slices_Grow_byte_byte.eq s0 n1 R h ▸ H)

/-! slices.Concat[[]byte,byte] -/
def slices_Concat_byte_byte.body (slices0 : Sl) (R : Value → Heap → Prop) (h : Heap) : Prop :=
  loopW (fun X_2 (s_1 : Int × Int) (h : Heap) =>
  if (decide (s_1.2 < ((slices0.n : Int)))) = true then
  idxK slices0 s_1.2 (sizeOfT Try.prog T.sl_uint8) (fun (a_3 : Addr) =>
  loadK .slice h ((some a_3)) (fun (v_4 : Sl) =>
  if (decide ((IntKind.i64.wrap (s_1.1 + ((v_4.n : Int)))) < 0)) = true then
  opK Try.prog .any (Instr.makeInterface T.string (.string ((⟨#[108, 101, 110, 32, 111, 117, 116, 32, 111, 102, 32, 114, 97, 110, 103, 101]⟩ : ByteArray)))) (fun (v_5 : Value) (h : Heap) =>
  False) h
  else
  X_2 (IntKind.i64.wrap (s_1.1 + ((v_4.n : Int))), IntKind.i64.wrap (s_1.2 + 1)) h))
  else
  callK Try.prog .slice F.slices_Grow_byte_byte #[(.slice none 0 0), (.int .i64 s_1.1)] (fun (v_6 : Sl) (h : Heap) =>
  loopW (fun X_8 (s_7 : Sl × Int) (h : Heap) =>
  if (decide (s_7.2 < ((slices0.n : Int)))) = true then
  idxK slices0 s_7.2 (sizeOfT Try.prog T.sl_uint8) (fun (a_9 : Addr) =>
  loadK .slice h ((some a_9)) (fun (v_10 : Sl) =>
  opK Try.prog .slice (Builtin.append_ #[T.sl_uint8, T.sl_uint8] T.sl_uint8 #[(.slice s_7.1.a s_7.1.n s_7.1.c), (.slice v_10.a v_10.n v_10.c)]) (fun (v_11 : Sl) (h : Heap) =>
  X_8 (v_11, IntKind.i64.wrap (s_7.2 + 1)) h) h))
  else
  R (.slice s_7.1.a s_7.1.n s_7.1.c) h) (v_6, 0) h) h) (0, 0) h
def slices_Concat_byte_byte.ann : Ann := (.seq .leaf (.seq .leaf (.seq (.seq .leaf (.block (.loop [(3, (.int .i64)), (11, (.int .i64))] (.seq .leaf (.seq (.cond .leaf .leaf) (.seq (.block (.seq .leaf (.seq .leaf (.seq .leaf (.cond .leaf .leaf))))) .leaf)))))) (.seq .leaf (.seq (.seq .leaf (.block (.loop [(6, .slice), (27, (.int .i64))] (.seq .leaf (.seq (.cond .leaf .leaf) (.seq (.block (.seq .leaf .leaf)) .leaf)))))) (.seq .leaf .leaf))))))
theorem slices_Concat_byte_byte.eq (slices0 : Sl) (R : Value → Heap → Prop) (h : Heap) : slices_Concat_byte_byte.body slices0 R h = evFn Try.prog Try.f43 slices_Concat_byte_byte.ann [(.slice slices0.a slices0.n slices0.c)] R h := by kernel_rfl
theorem slices_Concat_byte_byte.calls {slices0 : Sl} {R : Value → Heap → Prop} {h : Heap} (H : slices_Concat_byte_byte.body slices0 R h) : HC Try.prog F.slices_Concat_byte_byte #[(.slice slices0.a slices0.n slices0.c)] R h :=
  evFn_sound mixed Try.func43 (by kernel_rfl) (slices_Concat_byte_byte.eq slices0 R h ▸ H)

/-! zugzwang/tags.eight -/
def tags_eight.body (n0 : Int) (R : Value → Heap → Prop) (h : Heap) : Prop :=
  loopW (fun X_2 (s_1 : Sl × Int) (h : Heap) =>
  if (decide (s_1.2 < 8)) = true then
  shiftK (IntKind.i64.wrap (56 - (IntKind.i64.wrap (8 * s_1.2))))
  (newSlK h 1 #[(.int .u8 (IntKind.u8.wrap (Int.fdiv (IntKind.u64.wrap n0) (2 ^ min (Int.toNat (IntKind.i64.wrap (56 - (IntKind.i64.wrap (8 * s_1.2))))) (IntKind.bits .u64)))))] T.uint8 (fun (v_3 : Sl) (h : Heap) =>
  opK Try.prog .slice (Builtin.append_ #[T.sl_uint8, T.sl_uint8] T.sl_uint8 #[(.slice s_1.1.a s_1.1.n s_1.1.c), (.slice v_3.a v_3.n v_3.c)]) (fun (v_4 : Sl) (h : Heap) =>
  X_2 (v_4, IntKind.i64.wrap (s_1.2 + 1)) h) h))
  else
  R (.slice s_1.1.a s_1.1.n s_1.1.c) h) (⟨none, 0, 0⟩, 0) h
def tags_eight.ann : Ann := (.seq .leaf (.seq (.seq .leaf (.block (.loop [(2, .slice), (4, (.int .i64))] (.seq .leaf (.seq (.cond .leaf .leaf) (.seq (.block (.seq .leaf .leaf)) .leaf)))))) (.seq .leaf .leaf)))
theorem tags_eight.eq (n0 : Int) (R : Value → Heap → Prop) (h : Heap) : tags_eight.body n0 R h = evFn Try.prog Try.f44 tags_eight.ann [(.int .i64 n0)] R h := by kernel_rfl
theorem tags_eight.calls {n0 : Int} {R : Value → Heap → Prop} {h : Heap} (H : tags_eight.body n0 R h) : HC Try.prog F.tags_eight #[(.int .i64 n0)] R h :=
  evFn_sound mixed Try.func44 (by kernel_rfl) (tags_eight.eq n0 R h ▸ H)

/-! zugzwang/tags.number -/
def tags_number.body (n0 : Int) (R : Value → Heap → Prop) (h : Heap) : Prop :=
  newK h (zerosOf Try.prog T.api_Tag) T.api_Tag (fun (t_1 : Option Addr) (h : Heap) =>
  sliceArrK t_1 32 none none none (sizeOfT Try.prog T.uint8) (fun (v_2 : Sl) =>
  ((newSlK h 8 #[(.int .u8 122), (.int .u8 117), (.int .u8 103), (.int .u8 122), (.int .u8 119), (.int .u8 97), (.int .u8 110), (.int .u8 103)] T.uint8 (fun (v_3 : Sl) (h : Heap) =>
  ((opK Try.prog .slice (convert T.sl_uint8 T.sl_uint8 (.slice v_3.a v_3.n v_3.c)) (fun (v_4 : Sl) (h : Heap) =>
  callK Try.prog .slice F.tags_eight #[(.int .i64 n0)] (fun (v_5 : Sl) (h : Heap) =>
  newSlK h 2 #[(.slice v_4.a v_4.n v_4.c), (.slice v_5.a v_5.n v_5.c)] T.sl_uint8 (fun (v_6 : Sl) (h : Heap) =>
  callK Try.prog .slice F.slices_Concat_byte_byte #[(.slice v_6.a v_6.n v_6.c)] (fun (v_7 : Sl) (h : Heap) =>
  opK Try.prog (.int .i64) (Builtin.copy_ #[T.sl_uint8, T.sl_uint8] T.int #[(.slice v_2.a v_2.n v_2.c), (.slice v_7.a v_7.n v_7.c)]) (fun (v_8 : Int) (h : Heap) =>
  loadAggK (sizeOfT Try.prog T.api_Tag) h t_1 (fun (v_9 : Array Value) =>
  storeAggK (sizeOfT Try.prog T.api_Tag) h t_1 v_9 (fun (h : Heap) =>
  quietK Try.prog .agg (Instr.loadAt T.api_Tag (.pointer t_1)) (fun (r_10 : Array Value) =>
  R (.agg r_10) h) h))) h) h)) h) h) ∧
  (callK Try.prog .slice F.tags_eight #[(.int .i64 n0)] (fun (v_11 : Sl) (h : Heap) =>
  opK Try.prog .slice (convert T.sl_uint8 T.sl_uint8 (.slice v_3.a v_3.n v_3.c)) (fun (v_12 : Sl) (h : Heap) =>
  newSlK h 2 #[(.slice v_12.a v_12.n v_12.c), (.slice v_11.a v_11.n v_11.c)] T.sl_uint8 (fun (v_13 : Sl) (h : Heap) =>
  callK Try.prog .slice F.slices_Concat_byte_byte #[(.slice v_13.a v_13.n v_13.c)] (fun (v_14 : Sl) (h : Heap) =>
  opK Try.prog (.int .i64) (Builtin.copy_ #[T.sl_uint8, T.sl_uint8] T.int #[(.slice v_2.a v_2.n v_2.c), (.slice v_14.a v_14.n v_14.c)]) (fun (v_15 : Int) (h : Heap) =>
  loadAggK (sizeOfT Try.prog T.api_Tag) h t_1 (fun (v_16 : Array Value) =>
  storeAggK (sizeOfT Try.prog T.api_Tag) h t_1 v_16 (fun (h : Heap) =>
  quietK Try.prog .agg (Instr.loadAt T.api_Tag (.pointer t_1)) (fun (r_17 : Array Value) =>
  R (.agg r_17) h) h))) h) h)) h) h)))) ∧
  (callK Try.prog .slice F.tags_eight #[(.int .i64 n0)] (fun (v_18 : Sl) (h : Heap) =>
  newSlK h 8 #[(.int .u8 122), (.int .u8 117), (.int .u8 103), (.int .u8 122), (.int .u8 119), (.int .u8 97), (.int .u8 110), (.int .u8 103)] T.uint8 (fun (v_19 : Sl) (h : Heap) =>
  opK Try.prog .slice (convert T.sl_uint8 T.sl_uint8 (.slice v_19.a v_19.n v_19.c)) (fun (v_20 : Sl) (h : Heap) =>
  newSlK h 2 #[(.slice v_20.a v_20.n v_20.c), (.slice v_18.a v_18.n v_18.c)] T.sl_uint8 (fun (v_21 : Sl) (h : Heap) =>
  callK Try.prog .slice F.slices_Concat_byte_byte #[(.slice v_21.a v_21.n v_21.c)] (fun (v_22 : Sl) (h : Heap) =>
  opK Try.prog (.int .i64) (Builtin.copy_ #[T.sl_uint8, T.sl_uint8] T.int #[(.slice v_2.a v_2.n v_2.c), (.slice v_22.a v_22.n v_22.c)]) (fun (v_23 : Int) (h : Heap) =>
  loadAggK (sizeOfT Try.prog T.api_Tag) h t_1 (fun (v_24 : Array Value) =>
  storeAggK (sizeOfT Try.prog T.api_Tag) h t_1 v_24 (fun (h : Heap) =>
  quietK Try.prog .agg (Instr.loadAt T.api_Tag (.pointer t_1)) (fun (r_25 : Array Value) =>
  R (.agg r_25) h) h))) h) h)) h)) h))))
def tags_number.ann : Ann := (.seq .leaf (.seq (.any (.loc 0 (.loc 3 (.alt 1 (.alt 2 (.last 4 (.last 5 (.last 6 (.last 7 .done)))) (.last 4 (.last 2 (.last 5 (.last 6 (.last 7 .done)))))) (.last 4 (.last 1 (.last 2 (.last 5 (.last 6 (.last 7 .done)))))))))) (.seq .leaf .leaf)))
theorem tags_number.eq (n0 : Int) (R : Value → Heap → Prop) (h : Heap) : tags_number.body n0 R h = evFn Try.prog Try.f47 tags_number.ann [(.int .i64 n0)] R h := by kernel_rfl
theorem tags_number.calls {n0 : Int} {R : Value → Heap → Prop} {h : Heap} (H : tags_number.body n0 R h) : HC Try.prog F.tags_number #[(.int .i64 n0)] R h :=
  evFn_sound mixed Try.func47 (by kernel_rfl) (tags_number.eq n0 R h ▸ H)

/-! (zugzwang/tags.book).told -/
def tags_book_told.body (b0 : Array Value) (t1 : Array Value) (R : Value → Heap → Prop) (h : Heap) : Prop :=
  newK h b0 T.tags_book (fun (b_1 : Option Addr) (h : Heap) =>
  newK h t1 T.api_Tag (fun (t_2 : Option Addr) (h : Heap) =>
  sliceArrK t_2 32 (some 8) (some 16) none (sizeOfT Try.prog T.uint8) (fun (v_3 : Sl) =>
  loopW (fun X_5 (s_4 : Int × Int) (h : Heap) =>
  if (decide (s_4.2 < ((v_3.n : Int)))) = true then
  idxK v_3 s_4.2 (sizeOfT Try.prog T.uint8) (fun (a_6 : Addr) =>
  loadK (.int .u8) h ((some a_6)) (fun (v_7 : Int) =>
  shiftK 8
  (X_5 (IntKind.i64.wrap (BitVec.ofInt (IntKind.bits .i64) (IntKind.i64.wrap (s_4.1 * 2 ^ min (Int.toNat 8) (IntKind.bits .i64))) ||| BitVec.ofInt (IntKind.bits .i64) (IntKind.i64.wrap v_7)).toNat, IntKind.i64.wrap (s_4.2 + 1)) h)))
  else
  if (decide (s_4.1 ≥ 0)) = true then
  fldK b_1 0 (fun (a_8 : Addr) =>
  loadK .map h ((some a_8)) (fun (v_9 : Option Nat) =>
  quietK Try.prog (.int .i64) (Builtin.len_ #[T.map_atags_thing_int] T.int #[(.map v_9)]) (fun (v_10 : Int) =>
  if (decide (s_4.1 < v_10)) = true then
  loadAggK (sizeOfT Try.prog T.api_Tag) h t_2 (fun (v_11 : Array Value) =>
  callK Try.prog .agg F.tags_number #[(.int .i64 s_4.1)] (fun (v_12 : Array Value) (h : Heap) =>
  stillAggK (sizeOfT Try.prog T.api_Tag) h t_2 v_11 ∧
  eqK Try.prog (binSem .eql T.api_Tag (.tmp 31) (.tmp 32) (.agg v_12) (.agg v_11)) (fun (v_13 : Bool) =>
  R (.bool v_13) h)) h)
  else
  R (.bool false) h) h))
  else
  R (.bool false) h) (0, 0) h)))
def tags_book_told.ann : Ann := (.seq .leaf (.seq .leaf (.seq (.seq .leaf (.block (.loop [(5, (.int .i64)), (10, (.int .i64))] (.seq .leaf (.seq (.cond .leaf .leaf) (.seq (.block (.seq .leaf .leaf)) .leaf)))))) (.seq (.any (.loc 0 (.loc 1 (.loc 2 (.locA 3 (.loc 4 (.st 5 65472 (.last 6 (.loc 7 (.loc 8 (.loc 9 (.locA 10 (.st 12 57344 (.last 11 (.loc 13 (.loc 14 (.loc 15 .done))))) (.loc 11 (.loc 12 (.loc 13 (.loc 14 (.loc 15 .done)))))))))))) (.loc 4 (.loc 5 (.loc 6 (.loc 7 (.loc 8 (.loc 9 (.loc 10 (.loc 11 (.loc 12 (.loc 13 (.loc 14 (.loc 15 .done))))))))))))))))) .leaf))))
theorem tags_book_told.eq (b0 : Array Value) (t1 : Array Value) (R : Value → Heap → Prop) (h : Heap) : tags_book_told.body b0 t1 R h = evFn Try.prog Try.f33 tags_book_told.ann [(.agg b0), (.agg t1)] R h := by kernel_rfl
theorem tags_book_told.calls {b0 : Array Value} {t1 : Array Value} {R : Value → Heap → Prop} {h : Heap} (H : tags_book_told.body b0 t1 R h) : HC Try.prog F.tags_book_told #[(.agg b0), (.agg t1)] R h :=
  evFn_sound mixed Try.func33 (by kernel_rfl) (tags_book_told.eq b0 t1 R h ▸ H)

/-! (*zugzwang/tags.Maker).Told -/
def tags_Maker_Told.body (m0 : Option Addr) (t1 : Array Value) (R : Value → Heap → Prop) (h : Heap) : Prop :=
  newK h t1 T.api_Tag (fun (t_1 : Option Addr) (h : Heap) =>
  callK Try.prog .bool F.tags_Maker_there #[(.pointer m0)] (fun (v_2 : Bool) (h : Heap) =>
  if v_2 = true then
  derefK m0 (fun (a_3 : Addr) =>
  fldK ((some a_3)) 0 (fun (a_4 : Addr) =>
  loadAggK (sizeOfT Try.prog T.tags_book) h ((some a_4)) (fun (v_5 : Array Value) =>
  loadAggK (sizeOfT Try.prog T.api_Tag) h t_1 (fun (v_6 : Array Value) =>
  callK Try.prog .bool F.tags_book_told #[(.agg v_5), (.agg v_6)] (fun (v_7 : Bool) (h : Heap) =>
  R (.bool v_7) h) h))))
  else
  R (.bool false) h) h)
def tags_Maker_Told.ann : Ann := (.seq .leaf (.seq (.any (.loc 0 (.last 1 (.loc 2 (.locA 3 (.loc 4 (.loc 5 (.st 6 1792 (.st 7 1792 (.last 8 (.loc 9 (.loc 10 .done))))))) (.loc 4 (.loc 5 (.loc 6 (.loc 7 (.loc 8 (.loc 9 (.loc 10 .done)))))))))))) .leaf))
theorem tags_Maker_Told.eq (m0 : Option Addr) (t1 : Array Value) (R : Value → Heap → Prop) (h : Heap) : tags_Maker_Told.body m0 t1 R h = evFn Try.prog Try.f15 tags_Maker_Told.ann [(.pointer m0), (.agg t1)] R h := by kernel_rfl
theorem tags_Maker_Told.calls {m0 : Option Addr} {t1 : Array Value} {R : Value → Heap → Prop} {h : Heap} (H : tags_Maker_Told.body m0 t1 R h) : HC Try.prog F.tags_Maker_Told #[(.pointer m0), (.agg t1)] R h :=
  evFn_sound mixed Try.func15 (by kernel_rfl) (tags_Maker_Told.eq m0 t1 R h ▸ H)

/-! (*zugzwang/tags.Maker).Real -/
def tags_Maker_Real.body (m0 : Option Addr) (R : Value → Heap → Prop) (h : Heap) : Prop :=
  callK Try.prog .bool F.tags_Maker_there #[(.pointer m0)] (fun (v_1 : Bool) (h : Heap) =>
  if v_1 = true then
  derefK m0 (fun (a_2 : Addr) =>
  fldK ((some a_2)) 1 (fun (a_3 : Addr) =>
  loadK .bool h ((some a_3)) (fun (v_4 : Bool) =>
  R (.bool v_4) h)))
  else
  R (.bool false) h) h
def tags_Maker_Real.ann : Ann := (.seq .leaf (.seq .leaf .leaf))
theorem tags_Maker_Real.eq (m0 : Option Addr) (R : Value → Heap → Prop) (h : Heap) : tags_Maker_Real.body m0 R h = evFn Try.prog Try.f16 tags_Maker_Real.ann [(.pointer m0)] R h := by kernel_rfl
theorem tags_Maker_Real.calls {m0 : Option Addr} {R : Value → Heap → Prop} {h : Heap} (H : tags_Maker_Real.body m0 R h) : HC Try.prog F.tags_Maker_Real #[(.pointer m0)] R h :=
  evFn_sound mixed Try.func16 (by kernel_rfl) (tags_Maker_Real.eq m0 R h ▸ H)

/-! zugzwang/zugzwangref04.eight -/
def ref04_eight.body (n0 : Int) (R : Value → Heap → Prop) (h : Heap) : Prop :=
  loopW (fun X_2 (s_1 : Sl × Int) (h : Heap) =>
  if (decide (s_1.2 ≥ 0)) = true then
  shiftK (IntKind.i64.wrap (8 * s_1.2))
  (newSlK h 1 #[(.int .u8 (IntKind.u8.wrap (Int.fdiv (IntKind.u64.wrap n0) (2 ^ min (Int.toNat (IntKind.i64.wrap (8 * s_1.2))) (IntKind.bits .u64)))))] T.uint8 (fun (v_3 : Sl) (h : Heap) =>
  opK Try.prog .slice (Builtin.append_ #[T.sl_uint8, T.sl_uint8] T.sl_uint8 #[(.slice s_1.1.a s_1.1.n s_1.1.c), (.slice v_3.a v_3.n v_3.c)]) (fun (v_4 : Sl) (h : Heap) =>
  X_2 (v_4, IntKind.i64.wrap (s_1.2 - 1)) h) h))
  else
  R (.slice s_1.1.a s_1.1.n s_1.1.c) h) (⟨none, 0, 0⟩, 7) h
def ref04_eight.ann : Ann := (.seq .leaf (.seq .leaf (.seq (.seq .leaf (.block (.loop [(3, .slice), (4, (.int .i64))] (.seq (.seq .leaf (.cond .leaf .leaf)) (.seq (.block .leaf) .leaf))))) (.seq .leaf .leaf))))
theorem ref04_eight.eq (n0 : Int) (R : Value → Heap → Prop) (h : Heap) : ref04_eight.body n0 R h = evFn Try.prog Try.f39 ref04_eight.ann [(.int .i64 n0)] R h := by kernel_rfl
theorem ref04_eight.calls {n0 : Int} {R : Value → Heap → Prop} {h : Heap} (H : ref04_eight.body n0 R h) : HC Try.prog F.ref04_eight #[(.int .i64 n0)] R h :=
  evFn_sound mixed Try.func39 (by kernel_rfl) (ref04_eight.eq n0 R h ▸ H)

/-! zugzwang/zugzwangref04.Number -/
def ref04_Number.body (n0 : Int) (R : Value → Heap → Prop) (h : Heap) : Prop :=
  newK h (zerosOf Try.prog T.api_Tag) T.api_Tag (fun (v_1 : Option Addr) (h : Heap) =>
  newK h (zerosOf Try.prog T.api_Tag) T.api_Tag (fun (t_2 : Option Addr) (h : Heap) =>
  newSlK h 8 #[(.int .u8 122), (.int .u8 117), (.int .u8 103), (.int .u8 122), (.int .u8 119), (.int .u8 97), (.int .u8 110), (.int .u8 103)] T.uint8 (fun (v_3 : Sl) (h : Heap) =>
  opK Try.prog .slice (convert T.sl_uint8 T.sl_uint8 (.slice v_3.a v_3.n v_3.c)) (fun (v_4 : Sl) (h : Heap) =>
  callK Try.prog .slice F.ref04_eight #[(.int .i64 n0)] (fun (v_5 : Sl) (h : Heap) =>
  opK Try.prog .slice (Builtin.append_ #[T.sl_uint8, T.sl_uint8] T.sl_uint8 #[(.slice v_4.a v_4.n v_4.c), (.slice v_5.a v_5.n v_5.c)]) (fun (v_6 : Sl) (h : Heap) =>
  loopW (fun X_8 (s_7 : Int) (h : Heap) =>
  if (decide (s_7 < ((v_6.n : Int)))) = true then
  idxK v_6 s_7 (sizeOfT Try.prog T.uint8) (fun (a_9 : Addr) =>
  loadK (.int .u8) h ((some a_9)) (fun (v_10 : Int) =>
  idxArrK t_2 32 s_7 (sizeOfT Try.prog T.uint8) (fun (a_11 : Addr) =>
  storeK h ((some a_11)) (.int .u8 v_10) (fun (h : Heap) =>
  X_8 (IntKind.i64.wrap (s_7 + 1)) h))))
  else
  loadAggK (sizeOfT Try.prog T.api_Tag) h t_2 (fun (v_12 : Array Value) =>
  storeAggK (sizeOfT Try.prog T.api_Tag) h v_1 v_12 (fun (h : Heap) =>
  quietK Try.prog .agg (Instr.loadAt T.api_Tag (.pointer v_1)) (fun (r_13 : Array Value) =>
  R (.agg r_13) h) h))) 0 h) h) h) h)))
def ref04_Number.ann : Ann := (.seq .leaf (.seq .leaf (.seq .leaf (.seq (.seq .leaf (.block (.loop [(5, (.int .i64))] (.seq (.seq .leaf (.cond .leaf .leaf)) (.seq (.block .leaf) .leaf))))) (.seq .leaf .leaf)))))
theorem ref04_Number.eq (n0 : Int) (R : Value → Heap → Prop) (h : Heap) : ref04_Number.body n0 R h = evFn Try.prog Try.f24 ref04_Number.ann [(.int .i64 n0)] R h := by kernel_rfl
theorem ref04_Number.calls {n0 : Int} {R : Value → Heap → Prop} {h : Heap} (H : ref04_Number.body n0 R h) : HC Try.prog F.ref04_Number #[(.int .i64 n0)] R h :=
  evFn_sound mixed Try.func24 (by kernel_rfl) (ref04_Number.eq n0 R h ▸ H)

/-! zugzwang/digest.begun -/
def digest_begun.body  (R : Value → Heap → Prop) (h : Heap) : Prop :=
  newK h (zerosOf Try.prog T.digest_state) T.digest_state (fun (v_1 : Option Addr) (h : Heap) =>
  buildK Try.prog (Instr.build T.digest_state #[(0, (.int .u32 1779033703)), (1, (.int .u32 3144134277)), (2, (.int .u32 1013904242)), (3, (.int .u32 2773480762)), (4, (.int .u32 1359893119)), (5, (.int .u32 2600822924)), (6, (.int .u32 528734635)), (7, (.int .u32 1541459225))]) (fun (v_2 : Array Value) =>
  storeAggK (sizeOfT Try.prog T.digest_state) h v_1 v_2 (fun (h : Heap) =>
  quietK Try.prog .agg (Instr.loadAt T.digest_state (.pointer v_1)) (fun (r_3 : Array Value) =>
  R (.agg r_3) h) h)))
def digest_begun.ann : Ann := (.seq .leaf (.seq .leaf .leaf))
theorem digest_begun.eq  (R : Value → Heap → Prop) (h : Heap) : digest_begun.body  R h = evFn Try.prog Try.f75 digest_begun.ann [] R h := by kernel_rfl
theorem digest_begun.calls  {R : Value → Heap → Prop} {h : Heap} (H : digest_begun.body  R h) : HC Try.prog F.digest_begun #[] R h :=
  evFn_sound mixed Try.func75 (by kernel_rfl) (digest_begun.eq  R h ▸ H)

/-! zugzwang/digest.New -/
def digest_New.body  (R : Value → Heap → Prop) (h : Heap) : Prop :=
  callK Try.prog .agg F.digest_begun #[] (fun (v_1 : Array Value) (h : Heap) =>
  buildK Try.prog (Instr.build T.digest_Hasher #[(0, (.agg v_1)), (3, (.bool true))]) (fun (v_2 : Array Value) =>
  newK h v_2 T.digest_Hasher (fun (v_3 : Option Addr) (h : Heap) =>
  R (.pointer v_3) h))) h
def digest_New.ann : Ann := (.seq .leaf (.seq .leaf .leaf))
theorem digest_New.eq  (R : Value → Heap → Prop) (h : Heap) : digest_New.body  R h = evFn Try.prog Try.f53 digest_New.ann [] R h := by kernel_rfl
theorem digest_New.calls  {R : Value → Heap → Prop} {h : Heap} (H : digest_New.body  R h) : HC Try.prog F.digest_New #[] R h :=
  evFn_sound mixed Try.func53 (by kernel_rfl) (digest_New.eq  R h ▸ H)

/-! (*zugzwang/bits.row).take -/
def bits_row_take.body (r0 : Option Addr) (R : Value → Heap → Prop) (h : Heap) : Prop :=
  derefK r0 (fun (a_1 : Addr) =>
  fldK ((some a_1)) 0 (fun (a_2 : Addr) =>
  loadK .slice h ((some a_2)) (fun (v_3 : Sl) =>
  idxK v_3 0 (sizeOfT Try.prog T.uint8) (fun (a_4 : Addr) =>
  loadK (.int .u8) h ((some a_4)) (fun (v_5 : Int) =>
  shiftK 24
  (derefK r0 (fun (a_6 : Addr) =>
  fldK ((some a_6)) 0 (fun (a_7 : Addr) =>
  loadK .slice h ((some a_7)) (fun (v_8 : Sl) =>
  idxK v_8 1 (sizeOfT Try.prog T.uint8) (fun (a_9 : Addr) =>
  loadK (.int .u8) h ((some a_9)) (fun (v_10 : Int) =>
  shiftK 16
  (derefK r0 (fun (a_11 : Addr) =>
  fldK ((some a_11)) 0 (fun (a_12 : Addr) =>
  loadK .slice h ((some a_12)) (fun (v_13 : Sl) =>
  idxK v_13 2 (sizeOfT Try.prog T.uint8) (fun (a_14 : Addr) =>
  loadK (.int .u8) h ((some a_14)) (fun (v_15 : Int) =>
  shiftK 8
  (derefK r0 (fun (a_16 : Addr) =>
  fldK ((some a_16)) 0 (fun (a_17 : Addr) =>
  loadK .slice h ((some a_17)) (fun (v_18 : Sl) =>
  idxK v_18 3 (sizeOfT Try.prog T.uint8) (fun (a_19 : Addr) =>
  loadK (.int .u8) h ((some a_19)) (fun (v_20 : Int) =>
  derefK r0 (fun (a_21 : Addr) =>
  fldK ((some a_21)) 0 (fun (a_22 : Addr) =>
  loadK .slice h ((some a_22)) (fun (v_23 : Sl) =>
  sliceK v_23 (some 4) none none (sizeOfT Try.prog T.uint8) (fun (v_24 : Sl) =>
  derefK r0 (fun (a_25 : Addr) =>
  fldK ((some a_25)) 0 (fun (a_26 : Addr) =>
  storeK h ((some a_26)) (.slice v_24.a v_24.n v_24.c) (fun (h : Heap) =>
  R (.int .u32 (IntKind.u32.wrap (BitVec.ofInt (IntKind.bits .u32) (IntKind.u32.wrap (BitVec.ofInt (IntKind.bits .u32) (IntKind.u32.wrap (BitVec.ofInt (IntKind.bits .u32) (IntKind.u32.wrap ((IntKind.u32.wrap v_5) * 2 ^ min (Int.toNat 24) (IntKind.bits .u32))) ||| BitVec.ofInt (IntKind.bits .u32) (IntKind.u32.wrap ((IntKind.u32.wrap v_10) * 2 ^ min (Int.toNat 16) (IntKind.bits .u32)))).toNat) ||| BitVec.ofInt (IntKind.bits .u32) (IntKind.u32.wrap ((IntKind.u32.wrap v_15) * 2 ^ min (Int.toNat 8) (IntKind.bits .u32)))).toNat) ||| BitVec.ofInt (IntKind.bits .u32) (IntKind.u32.wrap v_20)).toNat)) h))))))))))))))))))))))))))))))
def bits_row_take.ann : Ann := (.seq .leaf (.seq .leaf (.seq .leaf (.seq .leaf .leaf))))
theorem bits_row_take.eq (r0 : Option Addr) (R : Value → Heap → Prop) (h : Heap) : bits_row_take.body r0 R h = evFn Try.prog Try.f95 bits_row_take.ann [(.pointer r0)] R h := by kernel_rfl
theorem bits_row_take.calls {r0 : Option Addr} {R : Value → Heap → Prop} {h : Heap} (H : bits_row_take.body r0 R h) : HC Try.prog F.bits_row_take #[(.pointer r0)] R h :=
  evFn_sound mixed Try.func95 (by kernel_rfl) (bits_row_take.eq r0 R h ▸ H)

/-! zugzwang/bits.Words -/
def bits_Words.body (b0 : Sl) (R : Value → Heap → Prop) (h : Heap) : Prop :=
  divK 4
  (if ((Int.tmod ((b0.n : Int)) 4) != 0) = true then
  R (.tuple #[(.slice none 0 0), (.int .i64 4)]) h
  else
  callK Try.prog .slice F.slices_Clone_byte_byte #[(.slice b0.a b0.n b0.c)] (fun (v_1 : Sl) (h : Heap) =>
  buildK Try.prog (Instr.build T.bits_row #[(0, (.slice v_1.a v_1.n v_1.c))]) (fun (v_2 : Array Value) =>
  buildK Try.prog (Instr.build T.bits_reader #[(0, (.agg v_2))]) (fun (v_3 : Array Value) =>
  newK h (zerosOf Try.prog T.bits_reader) T.bits_reader (fun (r_4 : Option Addr) (h : Heap) =>
  storeAggK (sizeOfT Try.prog T.bits_reader) h r_4 v_3 (fun (h : Heap) =>
  divK 4
  (loopW (fun X_6 (s_5 : Int) (h : Heap) =>
  if (decide (s_5 < (IntKind.i64.wrap (Int.tdiv ((b0.n : Int)) 4)))) = true then
  fldK r_4 1 (fun (a_7 : Addr) =>
  fldK r_4 0 (fun (a_8 : Addr) =>
  loadK .slice h ((some a_7)) (fun (v_9 : Sl) =>
  callK Try.prog (.int .u32) F.bits_row_take #[(.pointer ((some a_8)))] (fun (v_10 : Int) (h : Heap) =>
  stillK .slice h ((some a_7)) v_9 ∧
  newSlK h 1 #[(.int .u32 v_10)] T.uint32 (fun (v_11 : Sl) (h : Heap) =>
  opK Try.prog .slice (Builtin.append_ #[T.sl_uint32, T.sl_uint32] T.sl_uint32 #[(.slice v_9.a v_9.n v_9.c), (.slice v_11.a v_11.n v_11.c)]) (fun (v_12 : Sl) (h : Heap) =>
  fldK r_4 1 (fun (a_13 : Addr) =>
  storeK h ((some a_13)) (.slice v_12.a v_12.n v_12.c) (fun (h : Heap) =>
  X_6 (IntKind.i64.wrap (s_5 + 1)) h))) h)) h)))
  else
  fldK r_4 1 (fun (a_14 : Addr) =>
  loadK .slice h ((some a_14)) (fun (v_15 : Sl) =>
  R (.tuple #[(.slice v_15.a v_15.n v_15.c), (.int .i64 0)]) h))) 0 h)))))) h)
def bits_Words.ann : Ann := (.seq .leaf (.seq (.seq .leaf (.cond (.seq .leaf .leaf) .leaf)) (.seq .leaf (.seq (.seq .leaf (.block (.loop [(16, (.int .i64))] (.seq .leaf (.seq (.cond .leaf .leaf) (.seq (.block (.any (.loc 0 (.loc 2 (.st 1 224 (.last 3 (.last 4 (.last 5 (.loc 6 (.last 7 .done)))))))))) .leaf)))))) (.seq .leaf .leaf)))))
theorem bits_Words.eq (b0 : Sl) (R : Value → Heap → Prop) (h : Heap) : bits_Words.body b0 R h = evFn Try.prog Try.f87 bits_Words.ann [(.slice b0.a b0.n b0.c)] R h := by kernel_rfl
theorem bits_Words.calls {b0 : Sl} {R : Value → Heap → Prop} {h : Heap} (H : bits_Words.body b0 R h) : HC Try.prog F.bits_Words #[(.slice b0.a b0.n b0.c)] R h :=
  evFn_sound mixed Try.func87 (by kernel_rfl) (bits_Words.eq b0 R h ▸ H)

/-! math/bits.RotateLeft32 -/
def math_bits_RotateLeft32.body (x0 : Int) (k1 : Int) (R : Value → Heap → Prop) (h : Heap) : Prop :=
  shiftK (IntKind.u64.wrap (BitVec.ofInt (IntKind.bits .u64) (IntKind.u64.wrap k1) &&& BitVec.ofInt (IntKind.bits .u64) 31).toNat)
  (shiftK (IntKind.u64.wrap (32 - (IntKind.u64.wrap (BitVec.ofInt (IntKind.bits .u64) (IntKind.u64.wrap k1) &&& BitVec.ofInt (IntKind.bits .u64) 31).toNat)))
  (R (.int .u32 (IntKind.u32.wrap (BitVec.ofInt (IntKind.bits .u32) (IntKind.u32.wrap (x0 * 2 ^ min (Int.toNat (IntKind.u64.wrap (BitVec.ofInt (IntKind.bits .u64) (IntKind.u64.wrap k1) &&& BitVec.ofInt (IntKind.bits .u64) 31).toNat)) (IntKind.bits .u32))) ||| BitVec.ofInt (IntKind.bits .u32) (Int.fdiv x0 (2 ^ min (Int.toNat (IntKind.u64.wrap (32 - (IntKind.u64.wrap (BitVec.ofInt (IntKind.bits .u64) (IntKind.u64.wrap k1) &&& BitVec.ofInt (IntKind.bits .u64) 31).toNat)))) (IntKind.bits .u32)))).toNat)) h))
def math_bits_RotateLeft32.ann : Ann := (.seq .leaf (.seq .leaf (.seq .leaf .leaf)))
theorem math_bits_RotateLeft32.eq (x0 : Int) (k1 : Int) (R : Value → Heap → Prop) (h : Heap) : math_bits_RotateLeft32.body x0 k1 R h = evFn Try.prog Try.f98 math_bits_RotateLeft32.ann [(.int .u32 x0), (.int .i64 k1)] R h := by kernel_rfl
theorem math_bits_RotateLeft32.calls {x0 : Int} {k1 : Int} {R : Value → Heap → Prop} {h : Heap} (H : math_bits_RotateLeft32.body x0 k1 R h) : HC Try.prog F.math_bits_RotateLeft32 #[(.int .u32 x0), (.int .i64 k1)] R h :=
  evFn_sound mixed Try.func98 (by kernel_rfl) (math_bits_RotateLeft32.eq x0 k1 R h ▸ H)

/-! zugzwang/bits.Turn -/
def bits_Turn.body (x0 : Int) (n1 : Int) (R : Value → Heap → Prop) (h : Heap) : Prop :=
  divK 32
  (callK Try.prog (.int .u32) F.math_bits_RotateLeft32 #[(.int .u32 x0), (.int .i64 (IntKind.i64.wrap (0 - (Int.tmod n1 32))))] (fun (v_1 : Int) (h : Heap) =>
  R (.int .u32 v_1) h) h)
def bits_Turn.ann : Ann := (.seq .leaf (.seq .leaf .leaf))
theorem bits_Turn.eq (x0 : Int) (n1 : Int) (R : Value → Heap → Prop) (h : Heap) : bits_Turn.body x0 n1 R h = evFn Try.prog Try.f96 bits_Turn.ann [(.int .u32 x0), (.int .i64 n1)] R h := by kernel_rfl
theorem bits_Turn.calls {x0 : Int} {n1 : Int} {R : Value → Heap → Prop} {h : Heap} (H : bits_Turn.body x0 n1 R h) : HC Try.prog F.bits_Turn #[(.int .u32 x0), (.int .i64 n1)] R h :=
  evFn_sound mixed Try.func96 (by kernel_rfl) (bits_Turn.eq x0 n1 R h ▸ H)

/-! zugzwang/bits.Mix -/
def bits_Mix.body (x0 : Int) (turns1 : Sl) (R : Value → Heap → Prop) (h : Heap) : Prop :=
  loopW (fun X_2 (s_1 : Int × Int) (h : Heap) =>
  if (decide (s_1.2 < ((turns1.n : Int)))) = true then
  idxK turns1 s_1.2 (sizeOfT Try.prog T.int) (fun (a_3 : Addr) =>
  loadK (.int .i64) h ((some a_3)) (fun (v_4 : Int) =>
  callK Try.prog (.int .u32) F.bits_Turn #[(.int .u32 x0), (.int .i64 v_4)] (fun (v_5 : Int) (h : Heap) =>
  X_2 (IntKind.u32.wrap (BitVec.ofInt (IntKind.bits .u32) s_1.1 ^^^ BitVec.ofInt (IntKind.bits .u32) v_5).toNat, IntKind.i64.wrap (s_1.2 + 1)) h) h))
  else
  R (.int .u32 s_1.1) h) (0, 0) h
def bits_Mix.ann : Ann := (.seq .leaf (.seq (.seq .leaf (.block (.loop [(4, (.int .u32)), (9, (.int .i64))] (.seq .leaf (.seq (.cond .leaf .leaf) (.seq (.block (.seq .leaf .leaf)) .leaf)))))) (.seq .leaf .leaf)))
theorem bits_Mix.eq (x0 : Int) (turns1 : Sl) (R : Value → Heap → Prop) (h : Heap) : bits_Mix.body x0 turns1 R h = evFn Try.prog Try.f88 bits_Mix.ann [(.int .u32 x0), (.slice turns1.a turns1.n turns1.c)] R h := by kernel_rfl
theorem bits_Mix.calls {x0 : Int} {turns1 : Sl} {R : Value → Heap → Prop} {h : Heap} (H : bits_Mix.body x0 turns1 R h) : HC Try.prog F.bits_Mix #[(.int .u32 x0), (.slice turns1.a turns1.n turns1.c)] R h :=
  evFn_sound mixed Try.func88 (by kernel_rfl) (bits_Mix.eq x0 turns1 R h ▸ H)

/-! zugzwang/bits.Shift -/
def bits_Shift.body (x0 : Int) (n1 : Int) (R : Value → Heap → Prop) (h : Heap) : Prop :=
  shiftK (if n1 < 0 then 0 else n1)
  (R (.int .u32 (Int.fdiv x0 (2 ^ min (Int.toNat (if n1 < 0 then 0 else n1)) (IntKind.bits .u32)))) h)
def bits_Shift.ann : Ann := (.seq .leaf (.seq .leaf .leaf))
theorem bits_Shift.eq (x0 : Int) (n1 : Int) (R : Value → Heap → Prop) (h : Heap) : bits_Shift.body x0 n1 R h = evFn Try.prog Try.f89 bits_Shift.ann [(.int .u32 x0), (.int .i64 n1)] R h := by kernel_rfl
theorem bits_Shift.calls {x0 : Int} {n1 : Int} {R : Value → Heap → Prop} {h : Heap} (H : bits_Shift.body x0 n1 R h) : HC Try.prog F.bits_Shift #[(.int .u32 x0), (.int .i64 n1)] R h :=
  evFn_sound mixed Try.func89 (by kernel_rfl) (bits_Shift.eq x0 n1 R h ▸ H)

/-! zugzwang/bits.Sum -/
def bits_Sum.body (words0 : Sl) (R : Value → Heap → Prop) (h : Heap) : Prop :=
  loopW (fun X_2 (s_1 : Int × Int) (h : Heap) =>
  if (decide (s_1.2 < ((words0.n : Int)))) = true then
  idxK words0 s_1.2 (sizeOfT Try.prog T.uint32) (fun (a_3 : Addr) =>
  loadK (.int .u32) h ((some a_3)) (fun (v_4 : Int) =>
  X_2 (IntKind.u32.wrap (s_1.1 + v_4), IntKind.i64.wrap (s_1.2 + 1)) h))
  else
  R (.int .u32 s_1.1) h) (0, 0) h
def bits_Sum.ann : Ann := (.seq .leaf (.seq (.seq .leaf (.block (.loop [(2, (.int .u32)), (7, (.int .i64))] (.seq .leaf (.seq (.cond .leaf .leaf) (.seq (.block (.seq .leaf .leaf)) .leaf)))))) (.seq .leaf .leaf)))
theorem bits_Sum.eq (words0 : Sl) (R : Value → Heap → Prop) (h : Heap) : bits_Sum.body words0 R h = evFn Try.prog Try.f90 bits_Sum.ann [(.slice words0.a words0.n words0.c)] R h := by kernel_rfl
theorem bits_Sum.calls {words0 : Sl} {R : Value → Heap → Prop} {h : Heap} (H : bits_Sum.body words0 R h) : HC Try.prog F.bits_Sum #[(.slice words0.a words0.n words0.c)] R h :=
  evFn_sound mixed Try.func90 (by kernel_rfl) (bits_Sum.eq words0 R h ▸ H)

/-! zugzwang/digest.constants -/
def digest_constants.body  (R : Value → Heap → Prop) (h : Heap) : Prop :=
  newK h (zerosOf Try.prog T.a64_uint32) T.a64_uint32 (fun (v_1 : Option Addr) (h : Heap) =>
  buildK Try.prog (Instr.build T.a64_uint32 #[(0, (.int .u32 1116352408)), (1, (.int .u32 1899447441)), (2, (.int .u32 3049323471)), (3, (.int .u32 3921009573)), (4, (.int .u32 961987163)), (5, (.int .u32 1508970993)), (6, (.int .u32 2453635748)), (7, (.int .u32 2870763221)), (8, (.int .u32 3624381080)), (9, (.int .u32 310598401)), (10, (.int .u32 607225278)), (11, (.int .u32 1426881987)), (12, (.int .u32 1925078388)), (13, (.int .u32 2162078206)), (14, (.int .u32 2614888103)), (15, (.int .u32 3248222580)), (16, (.int .u32 3835390401)), (17, (.int .u32 4022224774)), (18, (.int .u32 264347078)), (19, (.int .u32 604807628)), (20, (.int .u32 770255983)), (21, (.int .u32 1249150122)), (22, (.int .u32 1555081692)), (23, (.int .u32 1996064986)), (24, (.int .u32 2554220882)), (25, (.int .u32 2821834349)), (26, (.int .u32 2952996808)), (27, (.int .u32 3210313671)), (28, (.int .u32 3336571891)), (29, (.int .u32 3584528711)), (30, (.int .u32 113926993)), (31, (.int .u32 338241895)), (32, (.int .u32 666307205)), (33, (.int .u32 773529912)), (34, (.int .u32 1294757372)), (35, (.int .u32 1396182291)), (36, (.int .u32 1695183700)), (37, (.int .u32 1986661051)), (38, (.int .u32 2177026350)), (39, (.int .u32 2456956037)), (40, (.int .u32 2730485921)), (41, (.int .u32 2820302411)), (42, (.int .u32 3259730800)), (43, (.int .u32 3345764771)), (44, (.int .u32 3516065817)), (45, (.int .u32 3600352804)), (46, (.int .u32 4094571909)), (47, (.int .u32 275423344)), (48, (.int .u32 430227734)), (49, (.int .u32 506948616)), (50, (.int .u32 659060556)), (51, (.int .u32 883997877)), (52, (.int .u32 958139571)), (53, (.int .u32 1322822218)), (54, (.int .u32 1537002063)), (55, (.int .u32 1747873779)), (56, (.int .u32 1955562222)), (57, (.int .u32 2024104815)), (58, (.int .u32 2227730452)), (59, (.int .u32 2361852424)), (60, (.int .u32 2428436474)), (61, (.int .u32 2756734187)), (62, (.int .u32 3204031479)), (63, (.int .u32 3329325298))]) (fun (v_2 : Array Value) =>
  storeAggK (sizeOfT Try.prog T.a64_uint32) h v_1 v_2 (fun (h : Heap) =>
  quietK Try.prog .agg (Instr.loadAt T.a64_uint32 (.pointer v_1)) (fun (r_3 : Array Value) =>
  R (.agg r_3) h) h)))
def digest_constants.ann : Ann := (.seq .leaf (.seq .leaf .leaf))
theorem digest_constants.eq  (R : Value → Heap → Prop) (h : Heap) : digest_constants.body  R h = evFn Try.prog Try.f91 digest_constants.ann [] R h := by kernel_rfl
theorem digest_constants.calls  {R : Value → Heap → Prop} {h : Heap} (H : digest_constants.body  R h) : HC Try.prog F.digest_constants #[] R h :=
  evFn_sound mixed Try.func91 (by kernel_rfl) (digest_constants.eq  R h ▸ H)

/-! zugzwang/bits.Choose -/
def bits_Choose.body (x0 : Int) (a1 : Int) (b2 : Int) (R : Value → Heap → Prop) (h : Heap) : Prop :=
  R (.int .u32 (IntKind.u32.wrap (BitVec.ofInt (IntKind.bits .u32) b2 ^^^ BitVec.ofInt (IntKind.bits .u32) (IntKind.u32.wrap (BitVec.ofInt (IntKind.bits .u32) x0 &&& BitVec.ofInt (IntKind.bits .u32) (IntKind.u32.wrap (BitVec.ofInt (IntKind.bits .u32) a1 ^^^ BitVec.ofInt (IntKind.bits .u32) b2).toNat)).toNat)).toNat)) h
def bits_Choose.ann : Ann := (.seq .leaf (.seq .leaf .leaf))
theorem bits_Choose.eq (x0 : Int) (a1 : Int) (b2 : Int) (R : Value → Heap → Prop) (h : Heap) : bits_Choose.body x0 a1 b2 R h = evFn Try.prog Try.f97 bits_Choose.ann [(.int .u32 x0), (.int .u32 a1), (.int .u32 b2)] R h := by kernel_rfl
theorem bits_Choose.calls {x0 : Int} {a1 : Int} {b2 : Int} {R : Value → Heap → Prop} {h : Heap} (H : bits_Choose.body x0 a1 b2 R h) : HC Try.prog F.bits_Choose #[(.int .u32 x0), (.int .u32 a1), (.int .u32 b2)] R h :=
  evFn_sound mixed Try.func97 (by kernel_rfl) (bits_Choose.eq x0 a1 b2 R h ▸ H)

/-! (*zugzwang/digest.state).step -/
def digest_state_step.body (s0 : Option Addr) (w1 : Int) (k2 : Int) (R : Value → Heap → Prop) (h : Heap) : Prop :=
  derefK s0 (fun (a_1 : Addr) =>
  idxArrK ((some a_1)) 8 7 (sizeOfT Try.prog T.uint32) (fun (a_2 : Addr) =>
  derefK s0 (fun (a_3 : Addr) =>
  idxArrK ((some a_3)) 8 4 (sizeOfT Try.prog T.uint32) (fun (a_4 : Addr) =>
  derefK s0 (fun (a_5 : Addr) =>
  idxArrK ((some a_5)) 8 4 (sizeOfT Try.prog T.uint32) (fun (a_6 : Addr) =>
  derefK s0 (fun (a_7 : Addr) =>
  idxArrK ((some a_7)) 8 5 (sizeOfT Try.prog T.uint32) (fun (a_8 : Addr) =>
  derefK s0 (fun (a_9 : Addr) =>
  idxArrK ((some a_9)) 8 6 (sizeOfT Try.prog T.uint32) (fun (a_10 : Addr) =>
  loadK (.int .u32) h ((some a_2)) (fun (v_11 : Int) =>
  loadK (.int .u32) h ((some a_4)) (fun (v_12 : Int) =>
  loadK (.int .u32) h ((some a_6)) (fun (v_13 : Int) =>
  loadK (.int .u32) h ((some a_8)) (fun (v_14 : Int) =>
  loadK (.int .u32) h ((some a_10)) (fun (v_15 : Int) =>
  newSlK h 3 #[(.int .i64 6), (.int .i64 11), (.int .i64 25)] T.int (fun (v_16 : Sl) (h : Heap) =>
  callK Try.prog (.int .u32) F.bits_Mix #[(.int .u32 v_12), (.slice v_16.a v_16.n v_16.c)] (fun (v_17 : Int) (h : Heap) =>
  stillK (.int .u32) h ((some a_10)) v_15 ∧
  stillK (.int .u32) h ((some a_8)) v_14 ∧
  stillK (.int .u32) h ((some a_6)) v_13 ∧
  stillK (.int .u32) h ((some a_2)) v_11 ∧
  callK Try.prog (.int .u32) F.bits_Choose #[(.int .u32 v_13), (.int .u32 v_14), (.int .u32 v_15)] (fun (v_18 : Int) (h : Heap) =>
  stillK (.int .u32) h ((some a_2)) v_11 ∧
  newSlK h 5 #[(.int .u32 v_11), (.int .u32 v_17), (.int .u32 v_18), (.int .u32 k2), (.int .u32 w1)] T.uint32 (fun (v_19 : Sl) (h : Heap) =>
  callK Try.prog (.int .u32) F.bits_Sum #[(.slice v_19.a v_19.n v_19.c)] (fun (v_20 : Int) (h : Heap) =>
  derefK s0 (fun (a_21 : Addr) =>
  idxArrK ((some a_21)) 8 0 (sizeOfT Try.prog T.uint32) (fun (a_22 : Addr) =>
  derefK s0 (fun (a_23 : Addr) =>
  idxArrK ((some a_23)) 8 0 (sizeOfT Try.prog T.uint32) (fun (a_24 : Addr) =>
  derefK s0 (fun (a_25 : Addr) =>
  idxArrK ((some a_25)) 8 1 (sizeOfT Try.prog T.uint32) (fun (a_26 : Addr) =>
  derefK s0 (fun (a_27 : Addr) =>
  idxArrK ((some a_27)) 8 0 (sizeOfT Try.prog T.uint32) (fun (a_28 : Addr) =>
  derefK s0 (fun (a_29 : Addr) =>
  idxArrK ((some a_29)) 8 2 (sizeOfT Try.prog T.uint32) (fun (a_30 : Addr) =>
  derefK s0 (fun (a_31 : Addr) =>
  idxArrK ((some a_31)) 8 1 (sizeOfT Try.prog T.uint32) (fun (a_32 : Addr) =>
  derefK s0 (fun (a_33 : Addr) =>
  idxArrK ((some a_33)) 8 2 (sizeOfT Try.prog T.uint32) (fun (a_34 : Addr) =>
  loadK (.int .u32) h ((some a_22)) (fun (v_35 : Int) =>
  loadK (.int .u32) h ((some a_24)) (fun (v_36 : Int) =>
  loadK (.int .u32) h ((some a_26)) (fun (v_37 : Int) =>
  loadK (.int .u32) h ((some a_28)) (fun (v_38 : Int) =>
  loadK (.int .u32) h ((some a_30)) (fun (v_39 : Int) =>
  loadK (.int .u32) h ((some a_32)) (fun (v_40 : Int) =>
  loadK (.int .u32) h ((some a_34)) (fun (v_41 : Int) =>
  newSlK h 3 #[(.int .i64 2), (.int .i64 13), (.int .i64 22)] T.int (fun (v_42 : Sl) (h : Heap) =>
  callK Try.prog (.int .u32) F.bits_Mix #[(.int .u32 v_35), (.slice v_42.a v_42.n v_42.c)] (fun (v_43 : Int) (h : Heap) =>
  stillK (.int .u32) h ((some a_34)) v_41 ∧
  stillK (.int .u32) h ((some a_32)) v_40 ∧
  stillK (.int .u32) h ((some a_30)) v_39 ∧
  stillK (.int .u32) h ((some a_28)) v_38 ∧
  stillK (.int .u32) h ((some a_26)) v_37 ∧
  stillK (.int .u32) h ((some a_24)) v_36 ∧
  newSlK h 2 #[(.int .u32 v_43), (.int .u32 (IntKind.u32.wrap (BitVec.ofInt (IntKind.bits .u32) (IntKind.u32.wrap (BitVec.ofInt (IntKind.bits .u32) (IntKind.u32.wrap (BitVec.ofInt (IntKind.bits .u32) v_36 &&& BitVec.ofInt (IntKind.bits .u32) v_37).toNat) ||| BitVec.ofInt (IntKind.bits .u32) (IntKind.u32.wrap (BitVec.ofInt (IntKind.bits .u32) v_38 &&& BitVec.ofInt (IntKind.bits .u32) v_39).toNat)).toNat) ||| BitVec.ofInt (IntKind.bits .u32) (IntKind.u32.wrap (BitVec.ofInt (IntKind.bits .u32) v_40 &&& BitVec.ofInt (IntKind.bits .u32) v_41).toNat)).toNat))] T.uint32 (fun (v_44 : Sl) (h : Heap) =>
  callK Try.prog (.int .u32) F.bits_Sum #[(.slice v_44.a v_44.n v_44.c)] (fun (v_45 : Int) (h : Heap) =>
  derefK s0 (fun (a_46 : Addr) =>
  sliceArrK ((some a_46)) 8 (some 1) none none (sizeOfT Try.prog T.uint32) (fun (v_47 : Sl) =>
  derefK s0 (fun (a_48 : Addr) =>
  sliceArrK ((some a_48)) 8 none (some 7) none (sizeOfT Try.prog T.uint32) (fun (v_49 : Sl) =>
  opK Try.prog (.int .i64) (Builtin.copy_ #[T.sl_uint32, T.sl_uint32] T.int #[(.slice v_47.a v_47.n v_47.c), (.slice v_49.a v_49.n v_49.c)]) (fun (v_50 : Int) (h : Heap) =>
  derefK s0 (fun (a_51 : Addr) =>
  idxArrK ((some a_51)) 8 4 (sizeOfT Try.prog T.uint32) (fun (a_52 : Addr) =>
  derefK s0 (fun (a_53 : Addr) =>
  loadK (.int .u32) h ((some a_52)) (fun (v_54 : Int) =>
  idxArrK ((some a_53)) 8 4 (sizeOfT Try.prog T.uint32) (fun (a_55 : Addr) =>
  storeK h ((some a_55)) (.int .u32 (IntKind.u32.wrap (v_54 + v_20))) (fun (h : Heap) =>
  derefK s0 (fun (a_56 : Addr) =>
  idxArrK ((some a_56)) 8 0 (sizeOfT Try.prog T.uint32) (fun (a_57 : Addr) =>
  storeK h ((some a_57)) (.int .u32 (IntKind.u32.wrap (v_20 + v_45))) (fun (h : Heap) =>
  R (.tuple #[]) h)))))))))) h))))) h)) h))))))))))))))))))))))) h)) h) h))))))))))))))))
def digest_state_step.ann : Ann := (.seq (.any (.loc 0 (.loc 1 (.loc 2 (.loc 4 (.loc 5 (.loc 6 (.loc 10 (.loc 11 (.loc 12 (.loc 14 (.loc 15 (.loc 16 (.loc 18 (.loc 19 (.loc 20 (.loc 23 (.loc 24 (.st 3 234881024 (.st 7 239075840 (.st 13 239075328 (.st 17 239075328 (.st 21 239075328 (.last 8 (.last 9 (.last 22 (.last 25 (.last 26 (.loc 27 .done))))))))))))))))))))))))))))) (.seq (.any (.loc 0 (.loc 1 (.loc 2 (.loc 6 (.loc 7 (.loc 8 (.loc 10 (.loc 11 (.loc 12 (.loc 15 (.loc 16 (.loc 17 (.loc 19 (.loc 20 (.loc 21 (.loc 25 (.loc 26 (.loc 27 (.loc 29 (.loc 30 (.loc 31 (.st 3 240518168608 (.st 9 257714831360 (.st 13 257714831360 (.loc 14 (.st 18 257723203584 (.st 22 257723203584 (.loc 23 (.loc 24 (.st 28 266287972352 (.st 32 266287972352 (.loc 33 (.loc 34 (.last 4 (.last 5 (.last 35 (.last 36 (.loc 37 .done))))))))))))))))))))))))))))))))))))))) (.seq (.any (.loc 0 (.loc 1 (.loc 2 (.loc 3 (.loc 4 (.loc 5 (.last 6 .done)))))))) (.seq (.any (.loc 0 (.loc 1 (.loc 2 (.loc 4 (.loc 6 (.st 3 416 (.loc 5 (.loc 7 (.last 8 .done)))))))))) .leaf))))
theorem digest_state_step.eq (s0 : Option Addr) (w1 : Int) (k2 : Int) (R : Value → Heap → Prop) (h : Heap) : digest_state_step.body s0 w1 k2 R h = evFn Try.prog Try.f92 digest_state_step.ann [(.pointer s0), (.int .u32 w1), (.int .u32 k2)] R h := by kernel_rfl
theorem digest_state_step.calls {s0 : Option Addr} {w1 : Int} {k2 : Int} {R : Value → Heap → Prop} {h : Heap} (H : digest_state_step.body s0 w1 k2 R h) : HC Try.prog F.digest_state_step #[(.pointer s0), (.int .u32 w1), (.int .u32 k2)] R h :=
  evFn_sound mixed Try.func92 (by kernel_rfl) (digest_state_step.eq s0 w1 k2 R h ▸ H)

/-! (*zugzwang/digest.state).take -/
def digest_state_take.body (s0 : Option Addr) (b1 : Sl) (R : Value → Heap → Prop) (h : Heap) : Prop :=
  newK h (zerosOf Try.prog T.a64_uint32) T.a64_uint32 (fun (w_1 : Option Addr) (h : Heap) =>
  callK Try.prog (Kd.pair .slice (.int .i64)) F.bits_Words #[(.slice b1.a b1.n b1.c)] (fun (v_2 : Sl × Int) (h : Heap) =>
  sliceArrK w_1 64 none none none (sizeOfT Try.prog T.uint32) (fun (v_3 : Sl) =>
  opK Try.prog (.int .i64) (Builtin.copy_ #[T.sl_uint32, T.sl_uint32] T.int #[(.slice v_3.a v_3.n v_3.c), (.slice v_2.1.a v_2.1.n v_2.1.c)]) (fun (v_4 : Int) (h : Heap) =>
  loopW (fun X_6 (s_5 : Int) (h : Heap) =>
  if (decide (s_5 < 64)) = true then
  idxArrK w_1 64 (IntKind.i64.wrap (s_5 - 15)) (sizeOfT Try.prog T.uint32) (fun (a_7 : Addr) =>
  idxArrK w_1 64 (IntKind.i64.wrap (s_5 - 15)) (sizeOfT Try.prog T.uint32) (fun (a_8 : Addr) =>
  loadK (.int .u32) h ((some a_7)) (fun (v_9 : Int) =>
  loadK (.int .u32) h ((some a_8)) (fun (v_10 : Int) =>
  newSlK h 2 #[(.int .i64 7), (.int .i64 18)] T.int (fun (v_11 : Sl) (h : Heap) =>
  callK Try.prog (.int .u32) F.bits_Mix #[(.int .u32 v_9), (.slice v_11.a v_11.n v_11.c)] (fun (v_12 : Int) (h : Heap) =>
  stillK (.int .u32) h ((some a_8)) v_10 ∧
  callK Try.prog (.int .u32) F.bits_Shift #[(.int .u32 v_10), (.int .i64 3)] (fun (v_13 : Int) (h : Heap) =>
  idxArrK w_1 64 (IntKind.i64.wrap (s_5 - 2)) (sizeOfT Try.prog T.uint32) (fun (a_14 : Addr) =>
  idxArrK w_1 64 (IntKind.i64.wrap (s_5 - 2)) (sizeOfT Try.prog T.uint32) (fun (a_15 : Addr) =>
  loadK (.int .u32) h ((some a_14)) (fun (v_16 : Int) =>
  loadK (.int .u32) h ((some a_15)) (fun (v_17 : Int) =>
  newSlK h 2 #[(.int .i64 17), (.int .i64 19)] T.int (fun (v_18 : Sl) (h : Heap) =>
  callK Try.prog (.int .u32) F.bits_Mix #[(.int .u32 v_16), (.slice v_18.a v_18.n v_18.c)] (fun (v_19 : Int) (h : Heap) =>
  stillK (.int .u32) h ((some a_15)) v_17 ∧
  callK Try.prog (.int .u32) F.bits_Shift #[(.int .u32 v_17), (.int .i64 10)] (fun (v_20 : Int) (h : Heap) =>
  idxArrK w_1 64 (IntKind.i64.wrap (s_5 - 16)) (sizeOfT Try.prog T.uint32) (fun (a_21 : Addr) =>
  idxArrK w_1 64 (IntKind.i64.wrap (s_5 - 7)) (sizeOfT Try.prog T.uint32) (fun (a_22 : Addr) =>
  loadK (.int .u32) h ((some a_21)) (fun (v_23 : Int) =>
  loadK (.int .u32) h ((some a_22)) (fun (v_24 : Int) =>
  newSlK h 4 #[(.int .u32 v_23), (.int .u32 (IntKind.u32.wrap (BitVec.ofInt (IntKind.bits .u32) v_12 ^^^ BitVec.ofInt (IntKind.bits .u32) v_13).toNat)), (.int .u32 v_24), (.int .u32 (IntKind.u32.wrap (BitVec.ofInt (IntKind.bits .u32) v_19 ^^^ BitVec.ofInt (IntKind.bits .u32) v_20).toNat))] T.uint32 (fun (v_25 : Sl) (h : Heap) =>
  callK Try.prog (.int .u32) F.bits_Sum #[(.slice v_25.a v_25.n v_25.c)] (fun (v_26 : Int) (h : Heap) =>
  idxArrK w_1 64 s_5 (sizeOfT Try.prog T.uint32) (fun (a_27 : Addr) =>
  storeK h ((some a_27)) (.int .u32 v_26) (fun (h : Heap) =>
  X_6 (IntKind.i64.wrap (s_5 + 1)) h))) h)))))) h) h)))))) h) h)))))
  else
  derefK s0 (fun (a_28 : Addr) =>
  loadAggK (sizeOfT Try.prog T.digest_state) h ((some a_28)) (fun (v_29 : Array Value) =>
  newK h (zerosOf Try.prog T.digest_state) T.digest_state (fun (was_30 : Option Addr) (h : Heap) =>
  storeAggK (sizeOfT Try.prog T.digest_state) h was_30 v_29 (fun (h : Heap) =>
  callK Try.prog .agg F.digest_constants #[] (fun (v_31 : Array Value) (h : Heap) =>
  loopW (fun X_33 (s_32 : Int) (h : Heap) =>
  if (decide (s_32 < 64)) = true then
  idxValK (.int .u32) v_31 64 s_32 (sizeOfT Try.prog T.uint32) (fun (v_34 : Int) =>
  idxArrK w_1 64 s_32 (sizeOfT Try.prog T.uint32) (fun (a_35 : Addr) =>
  loadK (.int .u32) h ((some a_35)) (fun (v_36 : Int) =>
  callK Try.prog .unit F.digest_state_step #[(.pointer s0), (.int .u32 v_36), (.int .u32 v_34)] (fun (v_37 : Unit) (h : Heap) =>
  X_33 (IntKind.i64.wrap (s_32 + 1)) h) h)))
  else
  loopW (fun X_39 (s_38 : Int) (h : Heap) =>
  if (decide (s_38 < 8)) = true then
  derefK s0 (fun (a_40 : Addr) =>
  idxArrK ((some a_40)) 8 s_38 (sizeOfT Try.prog T.uint32) (fun (a_41 : Addr) =>
  idxArrK was_30 8 s_38 (sizeOfT Try.prog T.uint32) (fun (a_42 : Addr) =>
  derefK s0 (fun (a_43 : Addr) =>
  loadK (.int .u32) h ((some a_41)) (fun (v_44 : Int) =>
  loadK (.int .u32) h ((some a_42)) (fun (v_45 : Int) =>
  idxArrK ((some a_43)) 8 s_38 (sizeOfT Try.prog T.uint32) (fun (a_46 : Addr) =>
  storeK h ((some a_46)) (.int .u32 (IntKind.u32.wrap (v_44 + v_45))) (fun (h : Heap) =>
  X_39 (IntKind.i64.wrap (s_38 + 1)) h))))))))
  else
  R (.tuple #[]) h) 0 h) 0 h) h))))) 16 h) h)) h)
def digest_state_take.ann : Ann := (.seq .leaf (.seq .leaf (.seq .leaf (.seq (.seq .leaf (.block (.loop [(7, (.int .i64))] (.seq (.seq .leaf (.cond .leaf .leaf)) (.seq (.block (.seq (.any (.loc 0 (.loc 1 (.loc 2 (.loc 6 (.loc 7 (.loc 8 (.st 3 7200 (.st 9 7168 (.last 4 (.last 5 (.last 10 (.loc 11 (.loc 12 .done)))))))))))))) (.seq (.any (.loc 0 (.loc 1 (.loc 2 (.loc 6 (.loc 7 (.loc 8 (.st 3 7200 (.st 9 7168 (.last 4 (.last 5 (.last 10 (.loc 11 (.loc 12 .done)))))))))))))) (.any (.loc 0 (.loc 1 (.loc 2 (.loc 3 (.loc 5 (.loc 6 (.loc 7 (.loc 8 (.loc 10 (.st 4 30720 (.st 9 30720 (.last 11 (.last 12 (.loc 13 (.last 14 .done))))))))))))))))))) .leaf))))) (.seq .leaf (.seq (.seq .leaf (.block (.loop [(68, (.int .i64))] (.seq .leaf (.seq (.cond .leaf .leaf) (.seq (.block (.seq .leaf .leaf)) .leaf)))))) (.seq .leaf (.block (.loop [(79, (.int .i64))] (.seq .leaf (.seq (.cond .leaf .leaf) (.seq (.block (.seq .leaf (.any (.loc 0 (.loc 1 (.loc 2 (.loc 3 (.loc 5 (.loc 6 (.loc 9 (.st 4 3328 (.st 7 3328 (.loc 8 (.loc 10 (.last 11 .done))))))))))))))) .leaf))))))))))))
theorem digest_state_take.eq (s0 : Option Addr) (b1 : Sl) (R : Value → Heap → Prop) (h : Heap) : digest_state_take.body s0 b1 R h = evFn Try.prog Try.f76 digest_state_take.ann [(.pointer s0), (.slice b1.a b1.n b1.c)] R h := by kernel_rfl
theorem digest_state_take.calls {s0 : Option Addr} {b1 : Sl} {R : Value → Heap → Prop} {h : Heap} (H : digest_state_take.body s0 b1 R h) : HC Try.prog F.digest_state_take #[(.pointer s0), (.slice b1.a b1.n b1.c)] R h :=
  evFn_sound mixed Try.func76 (by kernel_rfl) (digest_state_take.eq s0 b1 R h ▸ H)

/-! (*zugzwang/digest.Hasher).all -/
def digest_Hasher_all.body (h0 : Option Addr) (rows1 : Sl) (R : Value → Heap → Prop) (h : Heap) : Prop :=
  loopW (fun X_2 (s_1 : Int) (h : Heap) =>
  if (decide (s_1 < ((rows1.n : Int)))) = true then
  idxK rows1 s_1 (sizeOfT Try.prog T.sl_uint8) (fun (a_3 : Addr) =>
  loadK .slice h ((some a_3)) (fun (v_4 : Sl) =>
  derefK h0 (fun (a_5 : Addr) =>
  fldK ((some a_5)) 9 (fun (a_6 : Addr) =>
  loadK (.int .i64) h ((some a_6)) (fun (v_7 : Int) =>
  derefK h0 (fun (a_8 : Addr) =>
  fldK ((some a_8)) 9 (fun (a_9 : Addr) =>
  storeK h ((some a_9)) (.int .i64 (IntKind.i64.wrap (v_7 + ((v_4.n : Int))))) (fun (h : Heap) =>
  derefK h0 (fun (a_10 : Addr) =>
  fldK ((some a_10)) 8 (fun (a_11 : Addr) =>
  loadK .slice h ((some a_11)) (fun (v_12 : Sl) =>
  opK Try.prog .slice (Builtin.append_ #[T.sl_uint8, T.sl_uint8] T.sl_uint8 #[(.slice v_12.a v_12.n v_12.c), (.slice v_4.a v_4.n v_4.c)]) (fun (v_13 : Sl) (h : Heap) =>
  derefK h0 (fun (a_14 : Addr) =>
  fldK ((some a_14)) 8 (fun (a_15 : Addr) =>
  storeK h ((some a_15)) (.slice v_13.a v_13.n v_13.c) (fun (h : Heap) =>
  loopW (fun X_17 (s_16 : Unit) (h : Heap) =>
  derefK h0 (fun (a_18 : Addr) =>
  fldK ((some a_18)) 8 (fun (a_19 : Addr) =>
  loadK .slice h ((some a_19)) (fun (v_20 : Sl) =>
  if (decide (((v_20.n : Int)) ≥ 64)) = true then
  derefK h0 (fun (a_21 : Addr) =>
  fldK ((some a_21)) 0 (fun (a_22 : Addr) =>
  derefK h0 (fun (a_23 : Addr) =>
  fldK ((some a_23)) 8 (fun (a_24 : Addr) =>
  loadK .slice h ((some a_24)) (fun (v_25 : Sl) =>
  sliceK v_25 none (some 64) none (sizeOfT Try.prog T.uint8) (fun (v_26 : Sl) =>
  callK Try.prog .unit F.digest_state_take #[(.pointer ((some a_22))), (.slice v_26.a v_26.n v_26.c)] (fun (v_27 : Unit) (h : Heap) =>
  derefK h0 (fun (a_28 : Addr) =>
  fldK ((some a_28)) 8 (fun (a_29 : Addr) =>
  loadK .slice h ((some a_29)) (fun (v_30 : Sl) =>
  sliceK v_30 (some 64) none none (sizeOfT Try.prog T.uint8) (fun (v_31 : Sl) =>
  derefK h0 (fun (a_32 : Addr) =>
  fldK ((some a_32)) 8 (fun (a_33 : Addr) =>
  storeK h ((some a_33)) (.slice v_31.a v_31.n v_31.c) (fun (h : Heap) =>
  X_17 () h)))))))) h))))))
  else
  X_2 (IntKind.i64.wrap (s_1 + 1)) h)))) () h)))) h)))))))))))
  else
  derefK h0 (fun (a_34 : Addr) =>
  fldK ((some a_34)) 8 (fun (a_35 : Addr) =>
  loadK .slice h ((some a_35)) (fun (v_36 : Sl) =>
  callK Try.prog .slice F.slices_Clone_byte_byte #[(.slice v_36.a v_36.n v_36.c)] (fun (v_37 : Sl) (h : Heap) =>
  derefK h0 (fun (a_38 : Addr) =>
  fldK ((some a_38)) 8 (fun (a_39 : Addr) =>
  storeK h ((some a_39)) (.slice v_37.a v_37.n v_37.c) (fun (h : Heap) =>
  R (.tuple #[]) h)))) h)))) 0 h
def digest_Hasher_all.ann : Ann := (.seq (.seq .leaf (.block (.loop [(8, (.int .i64))] (.seq .leaf (.seq (.cond .leaf .leaf) (.seq (.block (.seq .leaf (.seq .leaf (.seq .leaf (.block (.loop [] (.seq (.seq .leaf (.cond .leaf .leaf)) (.block (.seq (.any (.loc 0 (.loc 1 (.loc 2 (.loc 3 (.loc 4 (.loc 5 (.st 6 384 (.loc 7 (.last 8 .done)))))))))) .leaf))))))))) .leaf)))))) .leaf)
theorem digest_Hasher_all.eq (h0 : Option Addr) (rows1 : Sl) (R : Value → Heap → Prop) (h : Heap) : digest_Hasher_all.body h0 rows1 R h = evFn Try.prog Try.f54 digest_Hasher_all.ann [(.pointer h0), (.slice rows1.a rows1.n rows1.c)] R h := by kernel_rfl
theorem digest_Hasher_all.calls {h0 : Option Addr} {rows1 : Sl} {R : Value → Heap → Prop} {h : Heap} (H : digest_Hasher_all.body h0 rows1 R h) : HC Try.prog F.digest_Hasher_all #[(.pointer h0), (.slice rows1.a rows1.n rows1.c)] R h :=
  evFn_sound mixed Try.func54 (by kernel_rfl) (digest_Hasher_all.eq h0 rows1 R h ▸ H)

/-! (*zugzwang/bits.row).put -/
def bits_row_put.body (r0 : Option Addr) (w1 : Int) (R : Value → Heap → Prop) (h : Heap) : Prop :=
  derefK r0 (fun (a_1 : Addr) =>
  fldK ((some a_1)) 0 (fun (a_2 : Addr) =>
  loadK .slice h ((some a_2)) (fun (v_3 : Sl) =>
  shiftK 24
  (shiftK 16
  (shiftK 8
  (newSlK h 4 #[(.int .u8 (IntKind.u8.wrap (Int.fdiv w1 (2 ^ min (Int.toNat 24) (IntKind.bits .u32))))), (.int .u8 (IntKind.u8.wrap (Int.fdiv w1 (2 ^ min (Int.toNat 16) (IntKind.bits .u32))))), (.int .u8 (IntKind.u8.wrap (Int.fdiv w1 (2 ^ min (Int.toNat 8) (IntKind.bits .u32))))), (.int .u8 (IntKind.u8.wrap w1))] T.uint8 (fun (v_4 : Sl) (h : Heap) =>
  opK Try.prog .slice (Builtin.append_ #[T.sl_uint8, T.sl_uint8] T.sl_uint8 #[(.slice v_3.a v_3.n v_3.c), (.slice v_4.a v_4.n v_4.c)]) (fun (v_5 : Sl) (h : Heap) =>
  derefK r0 (fun (a_6 : Addr) =>
  fldK ((some a_6)) 0 (fun (a_7 : Addr) =>
  storeK h ((some a_7)) (.slice v_5.a v_5.n v_5.c) (fun (h : Heap) =>
  R (.tuple #[]) h)))) h)))))))
def bits_row_put.ann : Ann := .leaf
theorem bits_row_put.eq (r0 : Option Addr) (w1 : Int) (R : Value → Heap → Prop) (h : Heap) : bits_row_put.body r0 w1 R h = evFn Try.prog Try.f93 bits_row_put.ann [(.pointer r0), (.int .u32 w1)] R h := by kernel_rfl
theorem bits_row_put.calls {r0 : Option Addr} {w1 : Int} {R : Value → Heap → Prop} {h : Heap} (H : bits_row_put.body r0 w1 R h) : HC Try.prog F.bits_row_put #[(.pointer r0), (.int .u32 w1)] R h :=
  evFn_sound mixed Try.func93 (by kernel_rfl) (bits_row_put.eq r0 w1 R h ▸ H)

/-! zugzwang/bits.Bytes -/
def bits_Bytes.body (words0 : Sl) (R : Value → Heap → Prop) (h : Heap) : Prop :=
  newK h (zerosOf Try.prog T.bits_reader) T.bits_reader (fun (r_1 : Option Addr) (h : Heap) =>
  loopW (fun X_3 (s_2 : Int) (h : Heap) =>
  if (decide (s_2 < ((words0.n : Int)))) = true then
  idxK words0 s_2 (sizeOfT Try.prog T.uint32) (fun (a_4 : Addr) =>
  loadK (.int .u32) h ((some a_4)) (fun (v_5 : Int) =>
  fldK r_1 0 (fun (a_6 : Addr) =>
  callK Try.prog .unit F.bits_row_put #[(.pointer ((some a_6))), (.int .u32 v_5)] (fun (v_7 : Unit) (h : Heap) =>
  X_3 (IntKind.i64.wrap (s_2 + 1)) h) h)))
  else
  fldK r_1 0 (fun (a_8 : Addr) =>
  fldK ((some a_8)) 0 (fun (a_9 : Addr) =>
  loadK .slice h ((some a_9)) (fun (v_10 : Sl) =>
  R (.slice v_10.a v_10.n v_10.c) h)))) 0 h)
def bits_Bytes.ann : Ann := (.seq .leaf (.seq .leaf (.seq (.seq .leaf (.block (.loop [(8, (.int .i64))] (.seq .leaf (.seq (.cond .leaf .leaf) (.seq (.block (.seq .leaf .leaf)) .leaf)))))) (.seq .leaf .leaf))))
theorem bits_Bytes.eq (words0 : Sl) (R : Value → Heap → Prop) (h : Heap) : bits_Bytes.body words0 R h = evFn Try.prog Try.f78 bits_Bytes.ann [(.slice words0.a words0.n words0.c)] R h := by kernel_rfl
theorem bits_Bytes.calls {words0 : Sl} {R : Value → Heap → Prop} {h : Heap} (H : bits_Bytes.body words0 R h) : HC Try.prog F.bits_Bytes #[(.slice words0.a words0.n words0.c)] R h :=
  evFn_sound mixed Try.func78 (by kernel_rfl) (bits_Bytes.eq words0 R h ▸ H)

/-! zugzwang/digest.fill -/
def digest_fill.body (n0 : Int) (R : Value → Heap → Prop) (h : Heap) : Prop :=
  divK 64
  (divK 64
  (opK Try.prog .slice (Instr.makeSlice T.sl_uint8 (.int .i64 (IntKind.i64.wrap (1 + (Int.tmod (IntKind.i64.wrap (119 - (Int.tmod n0 64))) 64)))) (.int .i64 128)) (fun (v_1 : Sl) (h : Heap) =>
  idxK v_1 0 (sizeOfT Try.prog T.uint8) (fun (a_2 : Addr) =>
  storeK h ((some a_2)) (.int .u8 128) (fun (h : Heap) =>
  shiftK 32
  (newSlK h 2 #[(.int .u32 (IntKind.u32.wrap (Int.fdiv (IntKind.u64.wrap (IntKind.i64.wrap (8 * n0))) (2 ^ min (Int.toNat 32) (IntKind.bits .u64))))), (.int .u32 (IntKind.u32.wrap (IntKind.u64.wrap (IntKind.i64.wrap (8 * n0)))))] T.uint32 (fun (v_3 : Sl) (h : Heap) =>
  callK Try.prog .slice F.bits_Bytes #[(.slice v_3.a v_3.n v_3.c)] (fun (v_4 : Sl) (h : Heap) =>
  opK Try.prog .slice (Builtin.append_ #[T.sl_uint8, T.sl_uint8] T.sl_uint8 #[(.slice v_1.a v_1.n v_1.c), (.slice v_4.a v_4.n v_4.c)]) (fun (v_5 : Sl) (h : Heap) =>
  R (.slice v_5.a v_5.n v_5.c) h) h) h))))) h))
def digest_fill.ann : Ann := (.seq .leaf (.seq .leaf (.seq .leaf (.seq .leaf (.seq .leaf .leaf)))))
theorem digest_fill.eq (n0 : Int) (R : Value → Heap → Prop) (h : Heap) : digest_fill.body n0 R h = evFn Try.prog Try.f77 digest_fill.ann [(.int .i64 n0)] R h := by kernel_rfl
theorem digest_fill.calls {n0 : Int} {R : Value → Heap → Prop} {h : Heap} (H : digest_fill.body n0 R h) : HC Try.prog F.digest_fill #[(.int .i64 n0)] R h :=
  evFn_sound mixed Try.func77 (by kernel_rfl) (digest_fill.eq n0 R h ▸ H)

/-! (*zugzwang/digest.Hasher).ended -/
def digest_Hasher_ended.body (h0 : Option Addr) (R : Value → Heap → Prop) (h : Heap) : Prop :=
  newK h (zerosOf Try.prog T.api_Tag) T.api_Tag (fun (t_1 : Option Addr) (h : Heap) =>
  derefK h0 (fun (a_2 : Addr) =>
  fldK ((some a_2)) 9 (fun (a_3 : Addr) =>
  loadK (.int .i64) h ((some a_3)) (fun (v_4 : Int) =>
  callK Try.prog .slice F.digest_fill #[(.int .i64 v_4)] (fun (v_5 : Sl) (h : Heap) =>
  newSlK h 1 #[(.slice v_5.a v_5.n v_5.c)] T.sl_uint8 (fun (v_6 : Sl) (h : Heap) =>
  callK Try.prog .unit F.digest_Hasher_all #[(.pointer h0), (.slice v_6.a v_6.n v_6.c)] (fun (v_7 : Unit) (h : Heap) =>
  sliceArrK t_1 32 none none none (sizeOfT Try.prog T.uint8) (fun (v_8 : Sl) =>
  derefK h0 (fun (a_9 : Addr) =>
  fldK ((some a_9)) 0 (fun (a_10 : Addr) =>
  sliceArrK ((some a_10)) 8 none none none (sizeOfT Try.prog T.uint32) (fun (v_11 : Sl) =>
  callK Try.prog .slice F.bits_Bytes #[(.slice v_11.a v_11.n v_11.c)] (fun (v_12 : Sl) (h : Heap) =>
  opK Try.prog (.int .i64) (Builtin.copy_ #[T.sl_uint8, T.sl_uint8] T.int #[(.slice v_8.a v_8.n v_8.c), (.slice v_12.a v_12.n v_12.c)]) (fun (v_13 : Int) (h : Heap) =>
  loadAggK (sizeOfT Try.prog T.api_Tag) h t_1 (fun (v_14 : Array Value) =>
  storeAggK (sizeOfT Try.prog T.api_Tag) h t_1 v_14 (fun (h : Heap) =>
  quietK Try.prog .agg (Instr.loadAt T.api_Tag (.pointer t_1)) (fun (r_15 : Array Value) =>
  R (.agg r_15) h) h))) h) h))))) h)) h))))
def digest_Hasher_ended.ann : Ann := (.seq .leaf (.seq .leaf (.seq (.any (.loc 0 (.loc 1 (.loc 2 (.loc 3 (.loc 4 (.last 5 (.last 6 .done)))))))) (.seq .leaf .leaf))))
theorem digest_Hasher_ended.eq (h0 : Option Addr) (R : Value → Heap → Prop) (h : Heap) : digest_Hasher_ended.body h0 R h = evFn Try.prog Try.f55 digest_Hasher_ended.ann [(.pointer h0)] R h := by kernel_rfl
theorem digest_Hasher_ended.calls {h0 : Option Addr} {R : Value → Heap → Prop} {h : Heap} (H : digest_Hasher_ended.body h0 R h) : HC Try.prog F.digest_Hasher_ended #[(.pointer h0)] R h :=
  evFn_sound mixed Try.func55 (by kernel_rfl) (digest_Hasher_ended.eq h0 R h ▸ H)

/-! zugzwang/digest.Of -/
def digest_Of.body (rows0 : Sl) (R : Value → Heap → Prop) (h : Heap) : Prop :=
  newK h (zerosOf Try.prog T.api_Tag) T.api_Tag (fun (v_1 : Option Addr) (h : Heap) =>
  callK Try.prog .ptr F.digest_New #[] (fun (v_2 : Option Addr) (h : Heap) =>
  callK Try.prog .unit F.digest_Hasher_all #[(.pointer v_2), (.slice rows0.a rows0.n rows0.c)] (fun (v_3 : Unit) (h : Heap) =>
  callK Try.prog .agg F.digest_Hasher_ended #[(.pointer v_2)] (fun (v_4 : Array Value) (h : Heap) =>
  storeAggK (sizeOfT Try.prog T.api_Tag) h v_1 v_4 (fun (h : Heap) =>
  quietK Try.prog .agg (Instr.loadAt T.api_Tag (.pointer v_1)) (fun (r_5 : Array Value) =>
  R (.agg r_5) h) h)) h) h) h)
def digest_Of.ann : Ann := (.seq .leaf (.seq .leaf (.seq .leaf (.seq .leaf .leaf))))
theorem digest_Of.eq (rows0 : Sl) (R : Value → Heap → Prop) (h : Heap) : digest_Of.body rows0 R h = evFn Try.prog Try.f41 digest_Of.ann [(.slice rows0.a rows0.n rows0.c)] R h := by kernel_rfl
theorem digest_Of.calls {rows0 : Sl} {R : Value → Heap → Prop} {h : Heap} (H : digest_Of.body rows0 R h) : HC Try.prog F.digest_Of #[(.slice rows0.a rows0.n rows0.c)] R h :=
  evFn_sound mixed Try.func41 (by kernel_rfl) (digest_Of.eq rows0 R h ▸ H)

/-! (zugzwang/tags.book).ask -/
def tags_book_ask.body (b0 : Array Value) (x1 : Array Value) (R : Value → Heap → Prop) (h : Heap) : Prop :=
  newK h b0 T.tags_book (fun (b_1 : Option Addr) (h : Heap) =>
  newK h x1 T.tags_thing (fun (x_2 : Option Addr) (h : Heap) =>
  newK h (zerosOf Try.prog T.api_Tag) T.api_Tag (fun (v_3 : Option Addr) (h : Heap) =>
  fldK b_1 0 (fun (a_4 : Addr) =>
  loadK .map h ((some a_4)) (fun (v_5 : Option Nat) =>
  loadAggK (sizeOfT Try.prog T.tags_thing) h x_2 (fun (v_6 : Array Value) =>
  quietK Try.prog (Kd.pair (.int .i64) .bool) (Instr.lookup T.map_atags_thing_int (.map v_5) (.agg v_6) true) (fun (v_7 : Int × Bool) =>
  if (!v_7.2) = true then
  fldK b_1 0 (fun (a_8 : Addr) =>
  loadK .map h ((some a_8)) (fun (v_9 : Option Nat) =>
  quietK Try.prog (.int .i64) (Builtin.len_ #[T.map_atags_thing_int] T.int #[(.map v_9)]) (fun (v_10 : Int) =>
  fldK b_1 0 (fun (a_11 : Addr) =>
  loadK .map h ((some a_11)) (fun (v_12 : Option Nat) =>
  loadAggK (sizeOfT Try.prog T.tags_thing) h x_2 (fun (v_13 : Array Value) =>
  unitK Try.prog (Instr.mapUpdate T.map_atags_thing_int (.map v_12) (.agg v_13) (.int .i64 v_10)) (fun (h : Heap) =>
  callK Try.prog .agg F.tags_number #[(.int .i64 v_10)] (fun (v_14 : Array Value) (h : Heap) =>
  storeAggK (sizeOfT Try.prog T.api_Tag) h v_3 v_14 (fun (h : Heap) =>
  quietK Try.prog .agg (Instr.loadAt T.api_Tag (.pointer v_3)) (fun (r_15 : Array Value) =>
  R (.agg r_15) h) h)) h) h)))) h))
  else
  callK Try.prog .agg F.tags_number #[(.int .i64 v_7.1)] (fun (v_16 : Array Value) (h : Heap) =>
  storeAggK (sizeOfT Try.prog T.api_Tag) h v_3 v_16 (fun (h : Heap) =>
  quietK Try.prog .agg (Instr.loadAt T.api_Tag (.pointer v_3)) (fun (r_17 : Array Value) =>
  R (.agg r_17) h) h)) h) h))))))
def tags_book_ask.ann : Ann := (.seq .leaf (.seq .leaf (.seq (.seq .leaf (.cond (.seq .leaf .leaf) .leaf)) (.seq .leaf .leaf))))
theorem tags_book_ask.eq (b0 : Array Value) (x1 : Array Value) (R : Value → Heap → Prop) (h : Heap) : tags_book_ask.body b0 x1 R h = evFn Try.prog Try.f42 tags_book_ask.ann [(.agg b0), (.agg x1)] R h := by kernel_rfl
theorem tags_book_ask.calls {b0 : Array Value} {x1 : Array Value} {R : Value → Heap → Prop} {h : Heap} (H : tags_book_ask.body b0 x1 R h) : HC Try.prog F.tags_book_ask #[(.agg b0), (.agg x1)] R h :=
  evFn_sound mixed Try.func42 (by kernel_rfl) (tags_book_ask.eq b0 x1 R h ▸ H)

/-! (*zugzwang/tags.Maker).Sum -/
def tags_Maker_Sum.body (m0 : Option Addr) (rows1 : Sl) (R : Value → Heap → Prop) (h : Heap) : Prop :=
  newK h (zerosOf Try.prog T.api_Tag) T.api_Tag (fun (v_1 : Option Addr) (h : Heap) =>
  callK Try.prog .bool F.tags_Maker_there #[(.pointer m0)] (fun (v_2 : Bool) (h : Heap) =>
  if (!v_2) = true then
  buildK Try.prog (Instr.build T.api_Tag #[]) (fun (v_3 : Array Value) =>
  storeAggK (sizeOfT Try.prog T.api_Tag) h v_1 v_3 (fun (h : Heap) =>
  quietK Try.prog .agg (Instr.loadAt T.api_Tag (.pointer v_1)) (fun (r_4 : Array Value) =>
  R (.agg r_4) h) h))
  else
  derefK m0 (fun (a_5 : Addr) =>
  fldK ((some a_5)) 1 (fun (a_6 : Addr) =>
  loadK .bool h ((some a_6)) (fun (v_7 : Bool) =>
  if v_7 = true then
  callK Try.prog .agg F.digest_Of #[(.slice rows1.a rows1.n rows1.c)] (fun (v_8 : Array Value) (h : Heap) =>
  storeAggK (sizeOfT Try.prog T.api_Tag) h v_1 v_8 (fun (h : Heap) =>
  quietK Try.prog .agg (Instr.loadAt T.api_Tag (.pointer v_1)) (fun (r_9 : Array Value) =>
  R (.agg r_9) h) h)) h
  else
  derefK m0 (fun (a_10 : Addr) =>
  fldK ((some a_10)) 0 (fun (a_11 : Addr) =>
  loadAggK (sizeOfT Try.prog T.tags_book) h ((some a_11)) (fun (v_12 : Array Value) =>
  callK Try.prog .slice F.slices_Concat_byte_byte #[(.slice rows1.a rows1.n rows1.c)] (fun (v_13 : Sl) (h : Heap) =>
  stillAggK (sizeOfT Try.prog T.tags_book) h ((some a_11)) v_12 ∧
  opK Try.prog .str (convert T.sl_uint8 T.string (.slice v_13.a v_13.n v_13.c)) (fun (v_14 : ByteArray) (h : Heap) =>
  buildK Try.prog (Instr.build T.tags_thing #[(0, (.int .u8 115)), (2, (.string v_14))]) (fun (v_15 : Array Value) =>
  callK Try.prog .agg F.tags_book_ask #[(.agg v_12), (.agg v_15)] (fun (v_16 : Array Value) (h : Heap) =>
  storeAggK (sizeOfT Try.prog T.api_Tag) h v_1 v_16 (fun (h : Heap) =>
  quietK Try.prog .agg (Instr.loadAt T.api_Tag (.pointer v_1)) (fun (r_17 : Array Value) =>
  R (.agg r_17) h) h)) h)) h) h))))))) h)
def tags_Maker_Sum.ann : Ann := (.seq .leaf (.seq (.block (.seq .leaf (.cond (.seq .leaf .leaf) (.seq .leaf (.cond (.seq .leaf .leaf) .leaf))))) (.seq (.any (.loc 0 (.loc 1 (.loc 2 (.loc 4 (.st 3 768 (.last 5 (.last 6 (.loc 7 (.last 8 (.last 9 .done))))))))))) .leaf)))
theorem tags_Maker_Sum.eq (m0 : Option Addr) (rows1 : Sl) (R : Value → Heap → Prop) (h : Heap) : tags_Maker_Sum.body m0 rows1 R h = evFn Try.prog Try.f27 tags_Maker_Sum.ann [(.pointer m0), (.slice rows1.a rows1.n rows1.c)] R h := by kernel_rfl
theorem tags_Maker_Sum.calls {m0 : Option Addr} {rows1 : Sl} {R : Value → Heap → Prop} {h : Heap} (H : tags_Maker_Sum.body m0 rows1 R h) : HC Try.prog F.tags_Maker_Sum #[(.pointer m0), (.slice rows1.a rows1.n rows1.c)] R h :=
  evFn_sound mixed Try.func27 (by kernel_rfl) (tags_Maker_Sum.eq m0 rows1 R h ▸ H)

/-! (*zugzwang/tags.Maker).Draw -/
def tags_Maker_Draw.body (m0 : Option Addr) (k1 : Int) (R : Value → Heap → Prop) (h : Heap) : Prop :=
  newK h (zerosOf Try.prog T.api_Tag) T.api_Tag (fun (v_1 : Option Addr) (h : Heap) =>
  callK Try.prog .bool F.tags_Maker_there #[(.pointer m0)] (fun (v_2 : Bool) (h : Heap) =>
  if (!v_2) = true then
  buildK Try.prog (Instr.build T.api_Tag #[]) (fun (v_3 : Array Value) =>
  storeAggK (sizeOfT Try.prog T.api_Tag) h v_1 v_3 (fun (h : Heap) =>
  quietK Try.prog .agg (Instr.loadAt T.api_Tag (.pointer v_1)) (fun (r_4 : Array Value) =>
  R (.agg r_4) h) h))
  else
  derefK m0 (fun (a_5 : Addr) =>
  fldK ((some a_5)) 1 (fun (a_6 : Addr) =>
  loadK .bool h ((some a_6)) (fun (v_7 : Bool) =>
  if v_7 = true then
  derefK m0 (fun (a_8 : Addr) =>
  fldK ((some a_8)) 2 (fun (a_9 : Addr) =>
  loadK .slice h ((some a_9)) (fun (v_10 : Sl) =>
  ((newSlK h 4 #[(.int .u8 100), (.int .u8 114), (.int .u8 97), (.int .u8 119)] T.uint8 (fun (v_11 : Sl) (h : Heap) =>
  ((opK Try.prog .slice (convert T.sl_uint8 T.sl_uint8 (.slice v_11.a v_11.n v_11.c)) (fun (v_12 : Sl) (h : Heap) =>
  callK Try.prog .slice F.tags_eight #[(.int .i64 k1)] (fun (v_13 : Sl) (h : Heap) =>
  stillK .slice h ((some a_9)) v_10 ∧
  newSlK h 3 #[(.slice v_12.a v_12.n v_12.c), (.slice v_10.a v_10.n v_10.c), (.slice v_13.a v_13.n v_13.c)] T.sl_uint8 (fun (v_14 : Sl) (h : Heap) =>
  callK Try.prog .agg F.digest_Of #[(.slice v_14.a v_14.n v_14.c)] (fun (v_15 : Array Value) (h : Heap) =>
  storeAggK (sizeOfT Try.prog T.api_Tag) h v_1 v_15 (fun (h : Heap) =>
  quietK Try.prog .agg (Instr.loadAt T.api_Tag (.pointer v_1)) (fun (r_16 : Array Value) =>
  R (.agg r_16) h) h)) h)) h) h) ∧
  (callK Try.prog .slice F.tags_eight #[(.int .i64 k1)] (fun (v_17 : Sl) (h : Heap) =>
  stillK .slice h ((some a_9)) v_10 ∧
  opK Try.prog .slice (convert T.sl_uint8 T.sl_uint8 (.slice v_11.a v_11.n v_11.c)) (fun (v_18 : Sl) (h : Heap) =>
  newSlK h 3 #[(.slice v_18.a v_18.n v_18.c), (.slice v_10.a v_10.n v_10.c), (.slice v_17.a v_17.n v_17.c)] T.sl_uint8 (fun (v_19 : Sl) (h : Heap) =>
  callK Try.prog .agg F.digest_Of #[(.slice v_19.a v_19.n v_19.c)] (fun (v_20 : Array Value) (h : Heap) =>
  storeAggK (sizeOfT Try.prog T.api_Tag) h v_1 v_20 (fun (h : Heap) =>
  quietK Try.prog .agg (Instr.loadAt T.api_Tag (.pointer v_1)) (fun (r_21 : Array Value) =>
  R (.agg r_21) h) h)) h)) h) h)))) ∧
  (callK Try.prog .slice F.tags_eight #[(.int .i64 k1)] (fun (v_22 : Sl) (h : Heap) =>
  stillK .slice h ((some a_9)) v_10 ∧
  newSlK h 4 #[(.int .u8 100), (.int .u8 114), (.int .u8 97), (.int .u8 119)] T.uint8 (fun (v_23 : Sl) (h : Heap) =>
  opK Try.prog .slice (convert T.sl_uint8 T.sl_uint8 (.slice v_23.a v_23.n v_23.c)) (fun (v_24 : Sl) (h : Heap) =>
  newSlK h 3 #[(.slice v_24.a v_24.n v_24.c), (.slice v_10.a v_10.n v_10.c), (.slice v_22.a v_22.n v_22.c)] T.sl_uint8 (fun (v_25 : Sl) (h : Heap) =>
  callK Try.prog .agg F.digest_Of #[(.slice v_25.a v_25.n v_25.c)] (fun (v_26 : Array Value) (h : Heap) =>
  storeAggK (sizeOfT Try.prog T.api_Tag) h v_1 v_26 (fun (h : Heap) =>
  quietK Try.prog .agg (Instr.loadAt T.api_Tag (.pointer v_1)) (fun (r_27 : Array Value) =>
  R (.agg r_27) h) h)) h)) h)) h)))))
  else
  derefK m0 (fun (a_28 : Addr) =>
  fldK ((some a_28)) 0 (fun (a_29 : Addr) =>
  loadAggK (sizeOfT Try.prog T.tags_book) h ((some a_29)) (fun (v_30 : Array Value) =>
  buildK Try.prog (Instr.build T.tags_thing #[(0, (.int .u8 100)), (3, (.int .i64 k1))]) (fun (v_31 : Array Value) =>
  callK Try.prog .agg F.tags_book_ask #[(.agg v_30), (.agg v_31)] (fun (v_32 : Array Value) (h : Heap) =>
  storeAggK (sizeOfT Try.prog T.api_Tag) h v_1 v_32 (fun (h : Heap) =>
  quietK Try.prog .agg (Instr.loadAt T.api_Tag (.pointer v_1)) (fun (r_33 : Array Value) =>
  R (.agg r_33) h) h)) h)))))))) h)
def tags_Maker_Draw.ann : Ann := (.seq .leaf (.seq (.block (.seq .leaf (.cond (.seq .leaf .leaf) (.seq .leaf (.cond (.seq (.any (.loc 2 (.loc 3 (.loc 4 (.loc 6 (.st 5 1792 (.alt 0 (.alt 1 (.last 7 (.last 8 (.last 9 (.last 10 .done)))) (.last 7 (.last 1 (.last 8 (.last 9 (.last 10 .done)))))) (.last 7 (.last 0 (.last 1 (.last 8 (.last 9 (.last 10 .done))))))))))))) .leaf) .leaf))))) (.seq .leaf .leaf)))
theorem tags_Maker_Draw.eq (m0 : Option Addr) (k1 : Int) (R : Value → Heap → Prop) (h : Heap) : tags_Maker_Draw.body m0 k1 R h = evFn Try.prog Try.f28 tags_Maker_Draw.ann [(.pointer m0), (.int .i64 k1)] R h := by kernel_rfl
theorem tags_Maker_Draw.calls {m0 : Option Addr} {k1 : Int} {R : Value → Heap → Prop} {h : Heap} (H : tags_Maker_Draw.body m0 k1 R h) : HC Try.prog F.tags_Maker_Draw #[(.pointer m0), (.int .i64 k1)] R h :=
  evFn_sound mixed Try.func28 (by kernel_rfl) (tags_Maker_Draw.eq m0 k1 R h ▸ H)

/-! zugzwang/zugzwanglaw04.awake -/
def law04_awake.body  (R : Value → Heap → Prop) (h : Heap) : Prop :=
  callK Try.prog .ptr F.tags_New #[(.bool false), (.slice none 0 0)] (fun (v_1 : Option Addr) (h : Heap) =>
  newSlK h 1 #[(.int .u8 97)] T.uint8 (fun (v_2 : Sl) (h : Heap) =>
  opK Try.prog .slice (convert T.sl_uint8 T.sl_uint8 (.slice v_2.a v_2.n v_2.c)) (fun (v_3 : Sl) (h : Heap) =>
  newSlK h 1 #[(.slice v_3.a v_3.n v_3.c)] T.sl_uint8 (fun (v_4 : Sl) (h : Heap) =>
  callK Try.prog .agg F.tags_Maker_Sum #[(.pointer v_1), (.slice v_4.a v_4.n v_4.c)] (fun (v_5 : Array Value) (h : Heap) =>
  callK Try.prog .agg F.tags_Maker_Draw #[(.pointer v_1), (.int .i64 0)] (fun (v_6 : Array Value) (h : Heap) =>
  newSlK h 1 #[(.int .u8 97)] T.uint8 (fun (v_7 : Sl) (h : Heap) =>
  opK Try.prog .slice (convert T.sl_uint8 T.sl_uint8 (.slice v_7.a v_7.n v_7.c)) (fun (v_8 : Sl) (h : Heap) =>
  newSlK h 1 #[(.slice v_8.a v_8.n v_8.c)] T.sl_uint8 (fun (v_9 : Sl) (h : Heap) =>
  callK Try.prog .agg F.tags_Maker_Sum #[(.pointer v_1), (.slice v_9.a v_9.n v_9.c)] (fun (v_10 : Array Value) (h : Heap) =>
  newK h (zerosOf Try.prog T.api_Tag) T.api_Tag (fun (a_11 : Option Addr) (h : Heap) =>
  newK h (zerosOf Try.prog T.api_Tag) T.api_Tag (fun (b_12 : Option Addr) (h : Heap) =>
  newK h (zerosOf Try.prog T.api_Tag) T.api_Tag (fun (c_13 : Option Addr) (h : Heap) =>
  storeAggK (sizeOfT Try.prog T.api_Tag) h a_11 v_5 (fun (h : Heap) =>
  storeAggK (sizeOfT Try.prog T.api_Tag) h b_12 v_6 (fun (h : Heap) =>
  storeAggK (sizeOfT Try.prog T.api_Tag) h c_13 v_10 (fun (h : Heap) =>
  loadAggK (sizeOfT Try.prog T.api_Tag) h a_11 (fun (v_14 : Array Value) =>
  loadAggK (sizeOfT Try.prog T.api_Tag) h c_13 (fun (v_15 : Array Value) =>
  eqK Try.prog (binSem .eql T.api_Tag (.tmp 18) (.tmp 19) (.agg v_14) (.agg v_15)) (fun (v_16 : Bool) =>
  ((if v_16 = true then
  loadAggK (sizeOfT Try.prog T.api_Tag) h a_11 (fun (v_17 : Array Value) =>
  loadAggK (sizeOfT Try.prog T.api_Tag) h b_12 (fun (v_18 : Array Value) =>
  eqK Try.prog (binSem .neq T.api_Tag (.tmp 22) (.tmp 23) (.agg v_17) (.agg v_18)) (fun (v_19 : Bool) =>
  ((if v_19 = true then
  loadAggK (sizeOfT Try.prog T.api_Tag) h a_11 (fun (v_20 : Array Value) =>
  callK Try.prog .agg F.ref04_Number #[(.int .i64 0)] (fun (v_21 : Array Value) (h : Heap) =>
  eqK Try.prog (binSem .eql T.api_Tag (.tmp 27) (.tmp 28) (.agg v_20) (.agg v_21)) (fun (v_22 : Bool) =>
  ((if v_22 = true then
  loadAggK (sizeOfT Try.prog T.api_Tag) h b_12 (fun (v_23 : Array Value) =>
  callK Try.prog .agg F.ref04_Number #[(.int .i64 1)] (fun (v_24 : Array Value) (h : Heap) =>
  eqK Try.prog (binSem .eql T.api_Tag (.tmp 32) (.tmp 33) (.agg v_23) (.agg v_24)) (fun (v_25 : Bool) =>
  if v_25 = true then
  callK Try.prog (.int .i64) F.tags_Maker_Len #[(.pointer v_1)] (fun (v_26 : Int) (h : Heap) =>
  if (v_26 == 2) = true then
  loadAggK (sizeOfT Try.prog T.api_Tag) h b_12 (fun (v_27 : Array Value) =>
  callK Try.prog .bool F.tags_Maker_Told #[(.pointer v_1), (.agg v_27)] (fun (v_28 : Bool) (h : Heap) =>
  if v_28 = true then
  callK Try.prog .bool F.tags_Maker_Real #[(.pointer v_1)] (fun (v_29 : Bool) (h : Heap) =>
  R (.bool (!v_29)) h) h
  else
  R (.bool false) h) h)
  else
  R (.bool false) h) h
  else
  R (.bool false) h)) h)
  else
  R (.bool false) h) ∧
  (if v_22 = true then
  callK Try.prog .agg F.ref04_Number #[(.int .i64 1)] (fun (v_30 : Array Value) (h : Heap) =>
  loadAggK (sizeOfT Try.prog T.api_Tag) h b_12 (fun (v_31 : Array Value) =>
  eqK Try.prog (binSem .eql T.api_Tag (.tmp 32) (.tmp 33) (.agg v_31) (.agg v_30)) (fun (v_32 : Bool) =>
  if v_32 = true then
  callK Try.prog (.int .i64) F.tags_Maker_Len #[(.pointer v_1)] (fun (v_33 : Int) (h : Heap) =>
  if (v_33 == 2) = true then
  loadAggK (sizeOfT Try.prog T.api_Tag) h b_12 (fun (v_34 : Array Value) =>
  callK Try.prog .bool F.tags_Maker_Told #[(.pointer v_1), (.agg v_34)] (fun (v_35 : Bool) (h : Heap) =>
  if v_35 = true then
  callK Try.prog .bool F.tags_Maker_Real #[(.pointer v_1)] (fun (v_36 : Bool) (h : Heap) =>
  R (.bool (!v_36)) h) h
  else
  R (.bool false) h) h)
  else
  R (.bool false) h) h
  else
  R (.bool false) h))) h
  else
  R (.bool false) h)))) h)
  else
  R (.bool false) h) ∧
  (if v_19 = true then
  callK Try.prog .agg F.ref04_Number #[(.int .i64 0)] (fun (v_37 : Array Value) (h : Heap) =>
  loadAggK (sizeOfT Try.prog T.api_Tag) h a_11 (fun (v_38 : Array Value) =>
  eqK Try.prog (binSem .eql T.api_Tag (.tmp 27) (.tmp 28) (.agg v_38) (.agg v_37)) (fun (v_39 : Bool) =>
  ((if v_39 = true then
  loadAggK (sizeOfT Try.prog T.api_Tag) h b_12 (fun (v_40 : Array Value) =>
  callK Try.prog .agg F.ref04_Number #[(.int .i64 1)] (fun (v_41 : Array Value) (h : Heap) =>
  eqK Try.prog (binSem .eql T.api_Tag (.tmp 32) (.tmp 33) (.agg v_40) (.agg v_41)) (fun (v_42 : Bool) =>
  if v_42 = true then
  callK Try.prog (.int .i64) F.tags_Maker_Len #[(.pointer v_1)] (fun (v_43 : Int) (h : Heap) =>
  if (v_43 == 2) = true then
  loadAggK (sizeOfT Try.prog T.api_Tag) h b_12 (fun (v_44 : Array Value) =>
  callK Try.prog .bool F.tags_Maker_Told #[(.pointer v_1), (.agg v_44)] (fun (v_45 : Bool) (h : Heap) =>
  if v_45 = true then
  callK Try.prog .bool F.tags_Maker_Real #[(.pointer v_1)] (fun (v_46 : Bool) (h : Heap) =>
  R (.bool (!v_46)) h) h
  else
  R (.bool false) h) h)
  else
  R (.bool false) h) h
  else
  R (.bool false) h)) h)
  else
  R (.bool false) h) ∧
  (if v_39 = true then
  callK Try.prog .agg F.ref04_Number #[(.int .i64 1)] (fun (v_47 : Array Value) (h : Heap) =>
  loadAggK (sizeOfT Try.prog T.api_Tag) h b_12 (fun (v_48 : Array Value) =>
  eqK Try.prog (binSem .eql T.api_Tag (.tmp 32) (.tmp 33) (.agg v_48) (.agg v_47)) (fun (v_49 : Bool) =>
  if v_49 = true then
  callK Try.prog (.int .i64) F.tags_Maker_Len #[(.pointer v_1)] (fun (v_50 : Int) (h : Heap) =>
  if (v_50 == 2) = true then
  loadAggK (sizeOfT Try.prog T.api_Tag) h b_12 (fun (v_51 : Array Value) =>
  callK Try.prog .bool F.tags_Maker_Told #[(.pointer v_1), (.agg v_51)] (fun (v_52 : Bool) (h : Heap) =>
  if v_52 = true then
  callK Try.prog .bool F.tags_Maker_Real #[(.pointer v_1)] (fun (v_53 : Bool) (h : Heap) =>
  R (.bool (!v_53)) h) h
  else
  R (.bool false) h) h)
  else
  R (.bool false) h) h
  else
  R (.bool false) h))) h
  else
  R (.bool false) h))))) h
  else
  R (.bool false) h)))))
  else
  R (.bool false) h) ∧
  (if v_16 = true then
  loadAggK (sizeOfT Try.prog T.api_Tag) h b_12 (fun (v_54 : Array Value) =>
  loadAggK (sizeOfT Try.prog T.api_Tag) h a_11 (fun (v_55 : Array Value) =>
  eqK Try.prog (binSem .neq T.api_Tag (.tmp 22) (.tmp 23) (.agg v_55) (.agg v_54)) (fun (v_56 : Bool) =>
  ((if v_56 = true then
  loadAggK (sizeOfT Try.prog T.api_Tag) h a_11 (fun (v_57 : Array Value) =>
  callK Try.prog .agg F.ref04_Number #[(.int .i64 0)] (fun (v_58 : Array Value) (h : Heap) =>
  eqK Try.prog (binSem .eql T.api_Tag (.tmp 27) (.tmp 28) (.agg v_57) (.agg v_58)) (fun (v_59 : Bool) =>
  ((if v_59 = true then
  loadAggK (sizeOfT Try.prog T.api_Tag) h b_12 (fun (v_60 : Array Value) =>
  callK Try.prog .agg F.ref04_Number #[(.int .i64 1)] (fun (v_61 : Array Value) (h : Heap) =>
  eqK Try.prog (binSem .eql T.api_Tag (.tmp 32) (.tmp 33) (.agg v_60) (.agg v_61)) (fun (v_62 : Bool) =>
  if v_62 = true then
  callK Try.prog (.int .i64) F.tags_Maker_Len #[(.pointer v_1)] (fun (v_63 : Int) (h : Heap) =>
  if (v_63 == 2) = true then
  loadAggK (sizeOfT Try.prog T.api_Tag) h b_12 (fun (v_64 : Array Value) =>
  callK Try.prog .bool F.tags_Maker_Told #[(.pointer v_1), (.agg v_64)] (fun (v_65 : Bool) (h : Heap) =>
  if v_65 = true then
  callK Try.prog .bool F.tags_Maker_Real #[(.pointer v_1)] (fun (v_66 : Bool) (h : Heap) =>
  R (.bool (!v_66)) h) h
  else
  R (.bool false) h) h)
  else
  R (.bool false) h) h
  else
  R (.bool false) h)) h)
  else
  R (.bool false) h) ∧
  (if v_59 = true then
  callK Try.prog .agg F.ref04_Number #[(.int .i64 1)] (fun (v_67 : Array Value) (h : Heap) =>
  loadAggK (sizeOfT Try.prog T.api_Tag) h b_12 (fun (v_68 : Array Value) =>
  eqK Try.prog (binSem .eql T.api_Tag (.tmp 32) (.tmp 33) (.agg v_68) (.agg v_67)) (fun (v_69 : Bool) =>
  if v_69 = true then
  callK Try.prog (.int .i64) F.tags_Maker_Len #[(.pointer v_1)] (fun (v_70 : Int) (h : Heap) =>
  if (v_70 == 2) = true then
  loadAggK (sizeOfT Try.prog T.api_Tag) h b_12 (fun (v_71 : Array Value) =>
  callK Try.prog .bool F.tags_Maker_Told #[(.pointer v_1), (.agg v_71)] (fun (v_72 : Bool) (h : Heap) =>
  if v_72 = true then
  callK Try.prog .bool F.tags_Maker_Real #[(.pointer v_1)] (fun (v_73 : Bool) (h : Heap) =>
  R (.bool (!v_73)) h) h
  else
  R (.bool false) h) h)
  else
  R (.bool false) h) h
  else
  R (.bool false) h))) h
  else
  R (.bool false) h)))) h)
  else
  R (.bool false) h) ∧
  (if v_56 = true then
  callK Try.prog .agg F.ref04_Number #[(.int .i64 0)] (fun (v_74 : Array Value) (h : Heap) =>
  loadAggK (sizeOfT Try.prog T.api_Tag) h a_11 (fun (v_75 : Array Value) =>
  eqK Try.prog (binSem .eql T.api_Tag (.tmp 27) (.tmp 28) (.agg v_75) (.agg v_74)) (fun (v_76 : Bool) =>
  ((if v_76 = true then
  loadAggK (sizeOfT Try.prog T.api_Tag) h b_12 (fun (v_77 : Array Value) =>
  callK Try.prog .agg F.ref04_Number #[(.int .i64 1)] (fun (v_78 : Array Value) (h : Heap) =>
  eqK Try.prog (binSem .eql T.api_Tag (.tmp 32) (.tmp 33) (.agg v_77) (.agg v_78)) (fun (v_79 : Bool) =>
  if v_79 = true then
  callK Try.prog (.int .i64) F.tags_Maker_Len #[(.pointer v_1)] (fun (v_80 : Int) (h : Heap) =>
  if (v_80 == 2) = true then
  loadAggK (sizeOfT Try.prog T.api_Tag) h b_12 (fun (v_81 : Array Value) =>
  callK Try.prog .bool F.tags_Maker_Told #[(.pointer v_1), (.agg v_81)] (fun (v_82 : Bool) (h : Heap) =>
  if v_82 = true then
  callK Try.prog .bool F.tags_Maker_Real #[(.pointer v_1)] (fun (v_83 : Bool) (h : Heap) =>
  R (.bool (!v_83)) h) h
  else
  R (.bool false) h) h)
  else
  R (.bool false) h) h
  else
  R (.bool false) h)) h)
  else
  R (.bool false) h) ∧
  (if v_76 = true then
  callK Try.prog .agg F.ref04_Number #[(.int .i64 1)] (fun (v_84 : Array Value) (h : Heap) =>
  loadAggK (sizeOfT Try.prog T.api_Tag) h b_12 (fun (v_85 : Array Value) =>
  eqK Try.prog (binSem .eql T.api_Tag (.tmp 32) (.tmp 33) (.agg v_85) (.agg v_84)) (fun (v_86 : Bool) =>
  if v_86 = true then
  callK Try.prog (.int .i64) F.tags_Maker_Len #[(.pointer v_1)] (fun (v_87 : Int) (h : Heap) =>
  if (v_87 == 2) = true then
  loadAggK (sizeOfT Try.prog T.api_Tag) h b_12 (fun (v_88 : Array Value) =>
  callK Try.prog .bool F.tags_Maker_Told #[(.pointer v_1), (.agg v_88)] (fun (v_89 : Bool) (h : Heap) =>
  if v_89 = true then
  callK Try.prog .bool F.tags_Maker_Real #[(.pointer v_1)] (fun (v_90 : Bool) (h : Heap) =>
  R (.bool (!v_90)) h) h
  else
  R (.bool false) h) h)
  else
  R (.bool false) h) h
  else
  R (.bool false) h))) h
  else
  R (.bool false) h))))) h
  else
  R (.bool false) h)))))
  else
  R (.bool false) h)))))))))))) h)) h)) h) h)) h)) h
def law04_awake.ann : Ann := (.seq .leaf (.seq .leaf (.seq .leaf (.seq (.any (.st 0 17179869180 (.st 1 17179869180 (.loc 2 (.loc 3 (.altA 4 (.st 5 17179869120 (.loc 6 (.loc 7 (.loc 8 (.altA 9 (.last 10 (.loc 11 (.loc 12 (.loc 13 (.altA 14 (.last 15 (.loc 16 (.loc 17 (.loc 18 (.locA 19 (.last 20 (.loc 21 (.loc 22 (.loc 23 (.locA 24 (.st 25 17112760320 (.last 26 (.loc 27 (.loc 28 (.locA 29 (.last 30 (.loc 31 (.loc 32 (.loc 33 .done)))) (.loc 30 (.loc 31 (.loc 32 (.loc 33 .done))))))))) (.loc 25 (.loc 26 (.loc 27 (.loc 28 (.loc 29 (.loc 30 (.loc 31 (.loc 32 (.loc 33 .done)))))))))))))) (.loc 20 (.loc 21 (.loc 22 (.loc 23 (.loc 24 (.loc 25 (.loc 26 (.loc 27 (.loc 28 (.loc 29 (.loc 30 (.loc 31 (.loc 32 (.loc 33 .done))))))))))))))))))) (.loc 15 (.loc 16 (.loc 17 (.loc 18 (.loc 19 (.loc 20 (.loc 21 (.loc 22 (.loc 23 (.loc 24 (.loc 25 (.loc 26 (.loc 27 (.loc 28 (.loc 29 (.loc 30 (.loc 31 (.loc 32 (.loc 33 .done))))))))))))))))))) (.lastA 15 (.st 14 17179803648 (.loc 16 (.loc 17 (.loc 18 (.locA 19 (.last 20 (.loc 21 (.loc 22 (.loc 23 (.locA 24 (.st 25 17112760320 (.last 26 (.loc 27 (.loc 28 (.locA 29 (.last 30 (.loc 31 (.loc 32 (.loc 33 .done)))) (.loc 30 (.loc 31 (.loc 32 (.loc 33 .done))))))))) (.loc 25 (.loc 26 (.loc 27 (.loc 28 (.loc 29 (.loc 30 (.loc 31 (.loc 32 (.loc 33 .done)))))))))))))) (.loc 20 (.loc 21 (.loc 22 (.loc 23 (.loc 24 (.loc 25 (.loc 26 (.loc 27 (.loc 28 (.loc 29 (.loc 30 (.loc 31 (.loc 32 (.loc 33 .done))))))))))))))))))) (.loc 14 (.loc 16 (.loc 17 (.loc 18 (.loc 19 (.loc 20 (.loc 21 (.loc 22 (.loc 23 (.loc 24 (.loc 25 (.loc 26 (.loc 27 (.loc 28 (.loc 29 (.loc 30 (.loc 31 (.loc 32 (.loc 33 .done))))))))))))))))))))))))) (.loc 10 (.loc 11 (.loc 12 (.loc 13 (.loc 14 (.loc 15 (.loc 16 (.loc 17 (.loc 18 (.loc 19 (.loc 20 (.loc 21 (.loc 22 (.loc 23 (.loc 24 (.loc 25 (.loc 26 (.loc 27 (.loc 28 (.loc 29 (.loc 30 (.loc 31 (.loc 32 (.loc 33 .done)))))))))))))))))))))))) (.lastA 10 (.st 9 17179867136 (.loc 11 (.loc 12 (.loc 13 (.altA 14 (.last 15 (.loc 16 (.loc 17 (.loc 18 (.locA 19 (.last 20 (.loc 21 (.loc 22 (.loc 23 (.locA 24 (.st 25 17112760320 (.last 26 (.loc 27 (.loc 28 (.locA 29 (.last 30 (.loc 31 (.loc 32 (.loc 33 .done)))) (.loc 30 (.loc 31 (.loc 32 (.loc 33 .done))))))))) (.loc 25 (.loc 26 (.loc 27 (.loc 28 (.loc 29 (.loc 30 (.loc 31 (.loc 32 (.loc 33 .done)))))))))))))) (.loc 20 (.loc 21 (.loc 22 (.loc 23 (.loc 24 (.loc 25 (.loc 26 (.loc 27 (.loc 28 (.loc 29 (.loc 30 (.loc 31 (.loc 32 (.loc 33 .done))))))))))))))))))) (.loc 15 (.loc 16 (.loc 17 (.loc 18 (.loc 19 (.loc 20 (.loc 21 (.loc 22 (.loc 23 (.loc 24 (.loc 25 (.loc 26 (.loc 27 (.loc 28 (.loc 29 (.loc 30 (.loc 31 (.loc 32 (.loc 33 .done))))))))))))))))))) (.lastA 15 (.st 14 17179803648 (.loc 16 (.loc 17 (.loc 18 (.locA 19 (.last 20 (.loc 21 (.loc 22 (.loc 23 (.locA 24 (.st 25 17112760320 (.last 26 (.loc 27 (.loc 28 (.locA 29 (.last 30 (.loc 31 (.loc 32 (.loc 33 .done)))) (.loc 30 (.loc 31 (.loc 32 (.loc 33 .done))))))))) (.loc 25 (.loc 26 (.loc 27 (.loc 28 (.loc 29 (.loc 30 (.loc 31 (.loc 32 (.loc 33 .done)))))))))))))) (.loc 20 (.loc 21 (.loc 22 (.loc 23 (.loc 24 (.loc 25 (.loc 26 (.loc 27 (.loc 28 (.loc 29 (.loc 30 (.loc 31 (.loc 32 (.loc 33 .done))))))))))))))))))) (.loc 14 (.loc 16 (.loc 17 (.loc 18 (.loc 19 (.loc 20 (.loc 21 (.loc 22 (.loc 23 (.loc 24 (.loc 25 (.loc 26 (.loc 27 (.loc 28 (.loc 29 (.loc 30 (.loc 31 (.loc 32 (.loc 33 .done))))))))))))))))))))))))) (.loc 9 (.loc 11 (.loc 12 (.loc 13 (.loc 14 (.loc 15 (.loc 16 (.loc 17 (.loc 18 (.loc 19 (.loc 20 (.loc 21 (.loc 22 (.loc 23 (.loc 24 (.loc 25 (.loc 26 (.loc 27 (.loc 28 (.loc 29 (.loc 30 (.loc 31 (.loc 32 (.loc 33 .done)))))))))))))))))))))))))))))) (.loc 5 (.loc 6 (.loc 7 (.loc 8 (.loc 9 (.loc 10 (.loc 11 (.loc 12 (.loc 13 (.loc 14 (.loc 15 (.loc 16 (.loc 17 (.loc 18 (.loc 19 (.loc 20 (.loc 21 (.loc 22 (.loc 23 (.loc 24 (.loc 25 (.loc 26 (.loc 27 (.loc 28 (.loc 29 (.loc 30 (.loc 31 (.loc 32 (.loc 33 .done))))))))))))))))))))))))))))) (.lastA 5 (.st 4 17179869120 (.loc 6 (.loc 7 (.loc 8 (.altA 9 (.last 10 (.loc 11 (.loc 12 (.loc 13 (.altA 14 (.last 15 (.loc 16 (.loc 17 (.loc 18 (.locA 19 (.last 20 (.loc 21 (.loc 22 (.loc 23 (.locA 24 (.st 25 17112760320 (.last 26 (.loc 27 (.loc 28 (.locA 29 (.last 30 (.loc 31 (.loc 32 (.loc 33 .done)))) (.loc 30 (.loc 31 (.loc 32 (.loc 33 .done))))))))) (.loc 25 (.loc 26 (.loc 27 (.loc 28 (.loc 29 (.loc 30 (.loc 31 (.loc 32 (.loc 33 .done)))))))))))))) (.loc 20 (.loc 21 (.loc 22 (.loc 23 (.loc 24 (.loc 25 (.loc 26 (.loc 27 (.loc 28 (.loc 29 (.loc 30 (.loc 31 (.loc 32 (.loc 33 .done))))))))))))))))))) (.loc 15 (.loc 16 (.loc 17 (.loc 18 (.loc 19 (.loc 20 (.loc 21 (.loc 22 (.loc 23 (.loc 24 (.loc 25 (.loc 26 (.loc 27 (.loc 28 (.loc 29 (.loc 30 (.loc 31 (.loc 32 (.loc 33 .done))))))))))))))))))) (.lastA 15 (.st 14 17179803648 (.loc 16 (.loc 17 (.loc 18 (.locA 19 (.last 20 (.loc 21 (.loc 22 (.loc 23 (.locA 24 (.st 25 17112760320 (.last 26 (.loc 27 (.loc 28 (.locA 29 (.last 30 (.loc 31 (.loc 32 (.loc 33 .done)))) (.loc 30 (.loc 31 (.loc 32 (.loc 33 .done))))))))) (.loc 25 (.loc 26 (.loc 27 (.loc 28 (.loc 29 (.loc 30 (.loc 31 (.loc 32 (.loc 33 .done)))))))))))))) (.loc 20 (.loc 21 (.loc 22 (.loc 23 (.loc 24 (.loc 25 (.loc 26 (.loc 27 (.loc 28 (.loc 29 (.loc 30 (.loc 31 (.loc 32 (.loc 33 .done))))))))))))))))))) (.loc 14 (.loc 16 (.loc 17 (.loc 18 (.loc 19 (.loc 20 (.loc 21 (.loc 22 (.loc 23 (.loc 24 (.loc 25 (.loc 26 (.loc 27 (.loc 28 (.loc 29 (.loc 30 (.loc 31 (.loc 32 (.loc 33 .done))))))))))))))))))))))))) (.loc 10 (.loc 11 (.loc 12 (.loc 13 (.loc 14 (.loc 15 (.loc 16 (.loc 17 (.loc 18 (.loc 19 (.loc 20 (.loc 21 (.loc 22 (.loc 23 (.loc 24 (.loc 25 (.loc 26 (.loc 27 (.loc 28 (.loc 29 (.loc 30 (.loc 31 (.loc 32 (.loc 33 .done)))))))))))))))))))))))) (.lastA 10 (.st 9 17179867136 (.loc 11 (.loc 12 (.loc 13 (.altA 14 (.last 15 (.loc 16 (.loc 17 (.loc 18 (.locA 19 (.last 20 (.loc 21 (.loc 22 (.loc 23 (.locA 24 (.st 25 17112760320 (.last 26 (.loc 27 (.loc 28 (.locA 29 (.last 30 (.loc 31 (.loc 32 (.loc 33 .done)))) (.loc 30 (.loc 31 (.loc 32 (.loc 33 .done))))))))) (.loc 25 (.loc 26 (.loc 27 (.loc 28 (.loc 29 (.loc 30 (.loc 31 (.loc 32 (.loc 33 .done)))))))))))))) (.loc 20 (.loc 21 (.loc 22 (.loc 23 (.loc 24 (.loc 25 (.loc 26 (.loc 27 (.loc 28 (.loc 29 (.loc 30 (.loc 31 (.loc 32 (.loc 33 .done))))))))))))))))))) (.loc 15 (.loc 16 (.loc 17 (.loc 18 (.loc 19 (.loc 20 (.loc 21 (.loc 22 (.loc 23 (.loc 24 (.loc 25 (.loc 26 (.loc 27 (.loc 28 (.loc 29 (.loc 30 (.loc 31 (.loc 32 (.loc 33 .done))))))))))))))))))) (.lastA 15 (.st 14 17179803648 (.loc 16 (.loc 17 (.loc 18 (.locA 19 (.last 20 (.loc 21 (.loc 22 (.loc 23 (.locA 24 (.st 25 17112760320 (.last 26 (.loc 27 (.loc 28 (.locA 29 (.last 30 (.loc 31 (.loc 32 (.loc 33 .done)))) (.loc 30 (.loc 31 (.loc 32 (.loc 33 .done))))))))) (.loc 25 (.loc 26 (.loc 27 (.loc 28 (.loc 29 (.loc 30 (.loc 31 (.loc 32 (.loc 33 .done)))))))))))))) (.loc 20 (.loc 21 (.loc 22 (.loc 23 (.loc 24 (.loc 25 (.loc 26 (.loc 27 (.loc 28 (.loc 29 (.loc 30 (.loc 31 (.loc 32 (.loc 33 .done))))))))))))))))))) (.loc 14 (.loc 16 (.loc 17 (.loc 18 (.loc 19 (.loc 20 (.loc 21 (.loc 22 (.loc 23 (.loc 24 (.loc 25 (.loc 26 (.loc 27 (.loc 28 (.loc 29 (.loc 30 (.loc 31 (.loc 32 (.loc 33 .done))))))))))))))))))))))))) (.loc 9 (.loc 11 (.loc 12 (.loc 13 (.loc 14 (.loc 15 (.loc 16 (.loc 17 (.loc 18 (.loc 19 (.loc 20 (.loc 21 (.loc 22 (.loc 23 (.loc 24 (.loc 25 (.loc 26 (.loc 27 (.loc 28 (.loc 29 (.loc 30 (.loc 31 (.loc 32 (.loc 33 .done)))))))))))))))))))))))))))))) (.loc 4 (.loc 6 (.loc 7 (.loc 8 (.loc 9 (.loc 10 (.loc 11 (.loc 12 (.loc 13 (.loc 14 (.loc 15 (.loc 16 (.loc 17 (.loc 18 (.loc 19 (.loc 20 (.loc 21 (.loc 22 (.loc 23 (.loc 24 (.loc 25 (.loc 26 (.loc 27 (.loc 28 (.loc 29 (.loc 30 (.loc 31 (.loc 32 (.loc 33 .done)))))))))))))))))))))))))))))))))))) .leaf))))
theorem law04_awake.eq  (R : Value → Heap → Prop) (h : Heap) : law04_awake.body  R h = evFn Try.prog Try.f7 law04_awake.ann [] R h := by kernel_rfl
theorem law04_awake.calls  {R : Value → Heap → Prop} {h : Heap} (H : law04_awake.body  R h) : HC Try.prog F.law04_awake #[] R h :=
  evFn_sound mixed Try.func7 (by kernel_rfl) (law04_awake.eq  R h ▸ H)

/-! zugzwang/zugzwanglaw04.size -/
def law04_size.body (l0 : Sl) (R : Value → Heap → Prop) (h : Heap) : Prop :=
  loopW (fun X_2 (s_1 : Int × Int) (h : Heap) =>
  if (decide (s_1.2 < ((l0.n : Int)))) = true then
  if (decide (s_1.1 ≤ 400)) = true then
  idxK l0 s_1.2 (sizeOfT Try.prog T.zugzwanglaw04_Ask) (fun (a_3 : Addr) =>
  fldK ((some a_3)) 1 (fun (a_4 : Addr) =>
  loadK .slice h ((some a_4)) (fun (v_5 : Sl) =>
  idxK l0 s_1.2 (sizeOfT Try.prog T.zugzwanglaw04_Ask) (fun (a_6 : Addr) =>
  fldK ((some a_6)) 2 (fun (a_7 : Addr) =>
  loadK .slice h ((some a_7)) (fun (v_8 : Sl) =>
  loopW (fun X_10 (s_9 : Int × Int) (h : Heap) =>
  idxK l0 s_1.2 (sizeOfT Try.prog T.zugzwanglaw04_Ask) (fun (a_11 : Addr) =>
  fldK ((some a_11)) 2 (fun (a_12 : Addr) =>
  loadK .slice h ((some a_12)) (fun (v_13 : Sl) =>
  if (decide (s_9.2 < ((v_13.n : Int)))) = true then
  if (decide (s_9.1 ≤ 400)) = true then
  idxK l0 s_1.2 (sizeOfT Try.prog T.zugzwanglaw04_Ask) (fun (a_14 : Addr) =>
  fldK ((some a_14)) 2 (fun (a_15 : Addr) =>
  loadK .slice h ((some a_15)) (fun (v_16 : Sl) =>
  idxK v_16 s_9.2 (sizeOfT Try.prog T.sl_uint8) (fun (a_17 : Addr) =>
  loadK .slice h ((some a_17)) (fun (v_18 : Sl) =>
  X_10 (IntKind.i64.wrap (s_9.1 + ((v_18.n : Int))), IntKind.i64.wrap (s_9.2 + 1)) h)))))
  else
  X_2 (s_9.1, IntKind.i64.wrap (s_1.2 + 1)) h
  else
  X_2 (s_9.1, IntKind.i64.wrap (s_1.2 + 1)) h)))) (IntKind.i64.wrap ((IntKind.i64.wrap (s_1.1 + ((v_5.n : Int)))) + ((v_8.n : Int))), 0) h))))))
  else
  R (.int .i64 s_1.1) h
  else
  R (.int .i64 s_1.1) h) ((l0.n : Int), 0) h
def law04_size.ann : Ann := (.seq .leaf (.seq .leaf (.seq (.seq .leaf (.block (.loop [(3, (.int .i64)), (4, (.int .i64))] (.seq (.seq .leaf (.cond .leaf .leaf)) (.seq (.block (.seq .leaf (.seq .leaf (.block (.loop [(3, (.int .i64)), (5, (.int .i64))] (.seq (.seq .leaf (.cond .leaf .leaf)) (.seq (.block .leaf) .leaf))))))) .leaf))))) (.seq .leaf .leaf))))
theorem law04_size.eq (l0 : Sl) (R : Value → Heap → Prop) (h : Heap) : law04_size.body l0 R h = evFn Try.prog Try.f8 law04_size.ann [(.slice l0.a l0.n l0.c)] R h := by kernel_rfl
theorem law04_size.calls {l0 : Sl} {R : Value → Heap → Prop} {h : Heap} (H : law04_size.body l0 R h) : HC Try.prog F.law04_size #[(.slice l0.a l0.n l0.c)] R h :=
  evFn_sound mixed Try.func8 (by kernel_rfl) (law04_size.eq l0 R h ▸ H)

/-! zugzwang/zugzwangkit.Pick -/
def kit_Pick.body (x0 : Int) (n1 : Int) (R : Value → Heap → Prop) (h : Heap) : Prop :=
  if (decide (n1 < 1)) = true then
  R (.int .i64 0) h
  else
  divK n1
  (if (decide ((Int.tmod x0 n1) < 0)) = true then
  R (.int .i64 (IntKind.i64.wrap ((Int.tmod x0 n1) + n1))) h
  else
  R (.int .i64 (Int.tmod x0 n1)) h)
def kit_Pick.ann : Ann := (.seq .leaf (.seq (.seq .leaf (.cond (.seq .leaf .leaf) .leaf)) (.seq .leaf (.seq (.seq .leaf (.cond .leaf .leaf)) (.seq .leaf .leaf)))))
theorem kit_Pick.eq (x0 : Int) (n1 : Int) (R : Value → Heap → Prop) (h : Heap) : kit_Pick.body x0 n1 R h = evFn Try.prog Try.f13 kit_Pick.ann [(.int .i64 x0), (.int .i64 n1)] R h := by kernel_rfl
theorem kit_Pick.calls {x0 : Int} {n1 : Int} {R : Value → Heap → Prop} {h : Heap} (H : kit_Pick.body x0 n1 R h) : HC Try.prog F.kit_Pick #[(.int .i64 x0), (.int .i64 n1)] R h :=
  evFn_sound mixed Try.func13 (by kernel_rfl) (kit_Pick.eq x0 n1 R h ▸ H)

/-! zugzwang/mac.keyed -/
def mac_keyed.body (key0 : Sl) (R : Value → Heap → Prop) (h : Heap) : Prop :=
  newK h (zerosOf Try.prog T.mac_block) T.mac_block (fun (b_1 : Option Addr) (h : Heap) =>
  joinW (fun (s_2 : Sl) (h : Heap) =>
  sliceArrK b_1 64 none none none (sizeOfT Try.prog T.uint8) (fun (v_3 : Sl) =>
  opK Try.prog (.int .i64) (Builtin.copy_ #[T.sl_uint8, T.sl_uint8] T.int #[(.slice v_3.a v_3.n v_3.c), (.slice s_2.a s_2.n s_2.c)]) (fun (v_4 : Int) (h : Heap) =>
  loadAggK (sizeOfT Try.prog T.mac_block) h b_1 (fun (v_5 : Array Value) =>
  storeAggK (sizeOfT Try.prog T.mac_block) h b_1 v_5 (fun (h : Heap) =>
  quietK Try.prog .agg (Instr.loadAt T.mac_block (.pointer b_1)) (fun (r_6 : Array Value) =>
  R (.agg r_6) h) h))) h))
  (fun J_7 =>
  if (decide (((key0.n : Int)) > 64)) = true then
  newSlK h 1 #[(.slice key0.a key0.n key0.c)] T.sl_uint8 (fun (v_8 : Sl) (h : Heap) =>
  callK Try.prog .agg F.digest_Of #[(.slice v_8.a v_8.n v_8.c)] (fun (v_9 : Array Value) (h : Heap) =>
  newK h (zerosOf Try.prog T.api_Tag) T.api_Tag (fun (t_10 : Option Addr) (h : Heap) =>
  storeAggK (sizeOfT Try.prog T.api_Tag) h t_10 v_9 (fun (h : Heap) =>
  sliceArrK t_10 32 none none none (sizeOfT Try.prog T.uint8) (fun (v_11 : Sl) =>
  J_7 v_11 h)))) h)
  else
  J_7 key0 h))
def mac_keyed.ann : Ann := (.seq .leaf (.join [(0, .slice)] (.seq .leaf (.cond (.seq .leaf .leaf) .leaf)) (.seq .leaf (.seq .leaf .leaf))))
theorem mac_keyed.eq (key0 : Sl) (R : Value → Heap → Prop) (h : Heap) : mac_keyed.body key0 R h = evFn Try.prog Try.f57 mac_keyed.ann [(.slice key0.a key0.n key0.c)] R h := by kernel_rfl
theorem mac_keyed.calls {key0 : Sl} {R : Value → Heap → Prop} {h : Heap} (H : mac_keyed.body key0 R h) : HC Try.prog F.mac_keyed #[(.slice key0.a key0.n key0.c)] R h :=
  evFn_sound mixed Try.func57 (by kernel_rfl) (mac_keyed.eq key0 R h ▸ H)

/-! (zugzwang/mac.block).turned -/
def mac_block_turned.body (b0 : Array Value) (by1 : Int) (R : Value → Heap → Prop) (h : Heap) : Prop :=
  newK h b0 T.mac_block (fun (b_1 : Option Addr) (h : Heap) =>
  loopW (fun X_3 (s_2 : Int) (h : Heap) =>
  if (decide (s_2 < 64)) = true then
  idxArrK b_1 64 s_2 (sizeOfT Try.prog T.uint8) (fun (a_4 : Addr) =>
  loadK (.int .u8) h ((some a_4)) (fun (v_5 : Int) =>
  idxArrK b_1 64 s_2 (sizeOfT Try.prog T.uint8) (fun (a_6 : Addr) =>
  storeK h ((some a_6)) (.int .u8 (IntKind.u8.wrap (BitVec.ofInt (IntKind.bits .u8) v_5 ^^^ BitVec.ofInt (IntKind.bits .u8) by1).toNat)) (fun (h : Heap) =>
  X_3 (IntKind.i64.wrap (s_2 + 1)) h))))
  else
  sliceArrK b_1 64 none none none (sizeOfT Try.prog T.uint8) (fun (v_7 : Sl) =>
  R (.slice v_7.a v_7.n v_7.c) h)) 0 h)
def mac_block_turned.ann : Ann := (.seq .leaf (.seq (.seq .leaf (.block (.loop [(6, (.int .i64))] (.seq .leaf (.seq (.cond .leaf .leaf) (.seq (.block (.seq .leaf .leaf)) .leaf)))))) (.seq .leaf .leaf)))
theorem mac_block_turned.eq (b0 : Array Value) (by1 : Int) (R : Value → Heap → Prop) (h : Heap) : mac_block_turned.body b0 by1 R h = evFn Try.prog Try.f79 mac_block_turned.ann [(.agg b0), (.int .u8 by1)] R h := by kernel_rfl
theorem mac_block_turned.calls {b0 : Array Value} {by1 : Int} {R : Value → Heap → Prop} {h : Heap} (H : mac_block_turned.body b0 by1 R h) : HC Try.prog F.mac_block_turned #[(.agg b0), (.int .u8 by1)] R h :=
  evFn_sound mixed Try.func79 (by kernel_rfl) (mac_block_turned.eq b0 by1 R h ▸ H)

/-! (zugzwang/mac.sealer).tag -/
def mac_sealer_tag.body (s0 : Array Value) (rows1 : Sl) (R : Value → Heap → Prop) (h : Heap) : Prop :=
  newK h s0 T.mac_sealer (fun (s_1 : Option Addr) (h : Heap) =>
  newK h (zerosOf Try.prog T.api_Tag) T.api_Tag (fun (v_2 : Option Addr) (h : Heap) =>
  fldK s_1 0 (fun (a_3 : Addr) =>
  loadAggK (sizeOfT Try.prog T.mac_block) h ((some a_3)) (fun (v_4 : Array Value) =>
  callK Try.prog .slice F.mac_block_turned #[(.agg v_4), (.int .u8 54)] (fun (v_5 : Sl) (h : Heap) =>
  newSlK h 1 #[(.slice v_5.a v_5.n v_5.c)] T.sl_uint8 (fun (v_6 : Sl) (h : Heap) =>
  opK Try.prog .slice (Builtin.append_ #[T.sl_sl_uint8, T.sl_sl_uint8] T.sl_sl_uint8 #[(.slice v_6.a v_6.n v_6.c), (.slice rows1.a rows1.n rows1.c)]) (fun (v_7 : Sl) (h : Heap) =>
  callK Try.prog .agg F.digest_Of #[(.slice v_7.a v_7.n v_7.c)] (fun (v_8 : Array Value) (h : Heap) =>
  newK h (zerosOf Try.prog T.api_Tag) T.api_Tag (fun (inner_9 : Option Addr) (h : Heap) =>
  storeAggK (sizeOfT Try.prog T.api_Tag) h inner_9 v_8 (fun (h : Heap) =>
  fldK s_1 0 (fun (a_10 : Addr) =>
  sliceArrK inner_9 32 none none none (sizeOfT Try.prog T.uint8) (fun (v_11 : Sl) =>
  loadAggK (sizeOfT Try.prog T.mac_block) h ((some a_10)) (fun (v_12 : Array Value) =>
  callK Try.prog .slice F.mac_block_turned #[(.agg v_12), (.int .u8 92)] (fun (v_13 : Sl) (h : Heap) =>
  newSlK h 2 #[(.slice v_13.a v_13.n v_13.c), (.slice v_11.a v_11.n v_11.c)] T.sl_uint8 (fun (v_14 : Sl) (h : Heap) =>
  callK Try.prog .agg F.digest_Of #[(.slice v_14.a v_14.n v_14.c)] (fun (v_15 : Array Value) (h : Heap) =>
  storeAggK (sizeOfT Try.prog T.api_Tag) h v_2 v_15 (fun (h : Heap) =>
  quietK Try.prog .agg (Instr.loadAt T.api_Tag (.pointer v_2)) (fun (r_16 : Array Value) =>
  R (.agg r_16) h) h)) h)) h)))))) h) h)) h))))
def mac_sealer_tag.ann : Ann := (.seq .leaf (.seq .leaf (.seq (.any (.loc 0 (.loc 3 (.st 1 116 (.last 2 (.last 4 (.last 5 (.last 6 .done)))))))) .leaf)))
theorem mac_sealer_tag.eq (s0 : Array Value) (rows1 : Sl) (R : Value → Heap → Prop) (h : Heap) : mac_sealer_tag.body s0 rows1 R h = evFn Try.prog Try.f58 mac_sealer_tag.ann [(.agg s0), (.slice rows1.a rows1.n rows1.c)] R h := by kernel_rfl
theorem mac_sealer_tag.calls {s0 : Array Value} {rows1 : Sl} {R : Value → Heap → Prop} {h : Heap} (H : mac_sealer_tag.body s0 rows1 R h) : HC Try.prog F.mac_sealer_tag #[(.agg s0), (.slice rows1.a rows1.n rows1.c)] R h :=
  evFn_sound mixed Try.func58 (by kernel_rfl) (mac_sealer_tag.eq s0 rows1 R h ▸ H)

/-! zugzwang/mac.Of -/
def mac_Of.body (key0 : Sl) (rows1 : Sl) (R : Value → Heap → Prop) (h : Heap) : Prop :=
  newK h (zerosOf Try.prog T.api_Tag) T.api_Tag (fun (v_1 : Option Addr) (h : Heap) =>
  callK Try.prog .agg F.mac_keyed #[(.slice key0.a key0.n key0.c)] (fun (v_2 : Array Value) (h : Heap) =>
  buildK Try.prog (Instr.build T.mac_sealer #[(0, (.agg v_2))]) (fun (v_3 : Array Value) =>
  callK Try.prog .agg F.mac_sealer_tag #[(.agg v_3), (.slice rows1.a rows1.n rows1.c)] (fun (v_4 : Array Value) (h : Heap) =>
  storeAggK (sizeOfT Try.prog T.api_Tag) h v_1 v_4 (fun (h : Heap) =>
  quietK Try.prog .agg (Instr.loadAt T.api_Tag (.pointer v_1)) (fun (r_5 : Array Value) =>
  R (.agg r_5) h) h)) h)) h)
def mac_Of.ann : Ann := (.seq .leaf (.seq .leaf .leaf))
theorem mac_Of.eq (key0 : Sl) (rows1 : Sl) (R : Value → Heap → Prop) (h : Heap) : mac_Of.body key0 rows1 R h = evFn Try.prog Try.f45 mac_Of.ann [(.slice key0.a key0.n key0.c), (.slice rows1.a rows1.n rows1.c)] R h := by kernel_rfl
theorem mac_Of.calls {key0 : Sl} {rows1 : Sl} {R : Value → Heap → Prop} {h : Heap} (H : mac_Of.body key0 rows1 R h) : HC Try.prog F.mac_Of #[(.slice key0.a key0.n key0.c), (.slice rows1.a rows1.n rows1.c)] R h :=
  evFn_sound mixed Try.func45 (by kernel_rfl) (mac_Of.eq key0 rows1 R h ▸ H)

/-! (*zugzwang/tags.Maker).Mac -/
def tags_Maker_Mac.body (m0 : Option Addr) (key1 : Sl) (rows2 : Sl) (R : Value → Heap → Prop) (h : Heap) : Prop :=
  newK h (zerosOf Try.prog T.api_Tag) T.api_Tag (fun (v_1 : Option Addr) (h : Heap) =>
  callK Try.prog .bool F.tags_Maker_there #[(.pointer m0)] (fun (v_2 : Bool) (h : Heap) =>
  if (!v_2) = true then
  buildK Try.prog (Instr.build T.api_Tag #[]) (fun (v_3 : Array Value) =>
  storeAggK (sizeOfT Try.prog T.api_Tag) h v_1 v_3 (fun (h : Heap) =>
  quietK Try.prog .agg (Instr.loadAt T.api_Tag (.pointer v_1)) (fun (r_4 : Array Value) =>
  R (.agg r_4) h) h))
  else
  derefK m0 (fun (a_5 : Addr) =>
  fldK ((some a_5)) 1 (fun (a_6 : Addr) =>
  loadK .bool h ((some a_6)) (fun (v_7 : Bool) =>
  if v_7 = true then
  callK Try.prog .agg F.mac_Of #[(.slice key1.a key1.n key1.c), (.slice rows2.a rows2.n rows2.c)] (fun (v_8 : Array Value) (h : Heap) =>
  storeAggK (sizeOfT Try.prog T.api_Tag) h v_1 v_8 (fun (h : Heap) =>
  quietK Try.prog .agg (Instr.loadAt T.api_Tag (.pointer v_1)) (fun (r_9 : Array Value) =>
  R (.agg r_9) h) h)) h
  else
  derefK m0 (fun (a_10 : Addr) =>
  fldK ((some a_10)) 0 (fun (a_11 : Addr) =>
  loadAggK (sizeOfT Try.prog T.tags_book) h ((some a_11)) (fun (v_12 : Array Value) =>
  ((opK Try.prog .str (convert T.sl_uint8 T.string (.slice key1.a key1.n key1.c)) (fun (v_13 : ByteArray) (h : Heap) =>
  callK Try.prog .slice F.slices_Concat_byte_byte #[(.slice rows2.a rows2.n rows2.c)] (fun (v_14 : Sl) (h : Heap) =>
  stillAggK (sizeOfT Try.prog T.tags_book) h ((some a_11)) v_12 ∧
  opK Try.prog .str (convert T.sl_uint8 T.string (.slice v_14.a v_14.n v_14.c)) (fun (v_15 : ByteArray) (h : Heap) =>
  buildK Try.prog (Instr.build T.tags_thing #[(0, (.int .u8 109)), (1, (.string v_13)), (2, (.string v_15))]) (fun (v_16 : Array Value) =>
  callK Try.prog .agg F.tags_book_ask #[(.agg v_12), (.agg v_16)] (fun (v_17 : Array Value) (h : Heap) =>
  storeAggK (sizeOfT Try.prog T.api_Tag) h v_1 v_17 (fun (h : Heap) =>
  quietK Try.prog .agg (Instr.loadAt T.api_Tag (.pointer v_1)) (fun (r_18 : Array Value) =>
  R (.agg r_18) h) h)) h)) h) h) h) ∧
  (callK Try.prog .slice F.slices_Concat_byte_byte #[(.slice rows2.a rows2.n rows2.c)] (fun (v_19 : Sl) (h : Heap) =>
  stillAggK (sizeOfT Try.prog T.tags_book) h ((some a_11)) v_12 ∧
  ((opK Try.prog .str (convert T.sl_uint8 T.string (.slice key1.a key1.n key1.c)) (fun (v_20 : ByteArray) (h : Heap) =>
  opK Try.prog .str (convert T.sl_uint8 T.string (.slice v_19.a v_19.n v_19.c)) (fun (v_21 : ByteArray) (h : Heap) =>
  buildK Try.prog (Instr.build T.tags_thing #[(0, (.int .u8 109)), (1, (.string v_20)), (2, (.string v_21))]) (fun (v_22 : Array Value) =>
  callK Try.prog .agg F.tags_book_ask #[(.agg v_12), (.agg v_22)] (fun (v_23 : Array Value) (h : Heap) =>
  storeAggK (sizeOfT Try.prog T.api_Tag) h v_1 v_23 (fun (h : Heap) =>
  quietK Try.prog .agg (Instr.loadAt T.api_Tag (.pointer v_1)) (fun (r_24 : Array Value) =>
  R (.agg r_24) h) h)) h)) h) h) ∧
  (opK Try.prog .str (convert T.sl_uint8 T.string (.slice v_19.a v_19.n v_19.c)) (fun (v_25 : ByteArray) (h : Heap) =>
  opK Try.prog .str (convert T.sl_uint8 T.string (.slice key1.a key1.n key1.c)) (fun (v_26 : ByteArray) (h : Heap) =>
  buildK Try.prog (Instr.build T.tags_thing #[(0, (.int .u8 109)), (1, (.string v_26)), (2, (.string v_25))]) (fun (v_27 : Array Value) =>
  callK Try.prog .agg F.tags_book_ask #[(.agg v_12), (.agg v_27)] (fun (v_28 : Array Value) (h : Heap) =>
  storeAggK (sizeOfT Try.prog T.api_Tag) h v_1 v_28 (fun (h : Heap) =>
  quietK Try.prog .agg (Instr.loadAt T.api_Tag (.pointer v_1)) (fun (r_29 : Array Value) =>
  R (.agg r_29) h) h)) h)) h) h))) h))))))))) h)
def tags_Maker_Mac.ann : Ann := (.seq .leaf (.seq (.block (.seq .leaf (.cond (.seq .leaf .leaf) (.seq .leaf (.cond (.seq .leaf .leaf) .leaf))))) (.seq (.any (.loc 0 (.loc 1 (.loc 2 (.loc 4 (.loc 6 (.st 3 3072 (.alt 5 (.last 7 (.last 8 (.loc 9 (.last 10 (.last 11 .done))))) (.last 7 (.alt 5 (.last 8 (.loc 9 (.last 10 (.last 11 .done)))) (.last 8 (.last 5 (.loc 9 (.last 10 (.last 11 .done))))))))))))))) .leaf)))
theorem tags_Maker_Mac.eq (m0 : Option Addr) (key1 : Sl) (rows2 : Sl) (R : Value → Heap → Prop) (h : Heap) : tags_Maker_Mac.body m0 key1 rows2 R h = evFn Try.prog Try.f30 tags_Maker_Mac.ann [(.pointer m0), (.slice key1.a key1.n key1.c), (.slice rows2.a rows2.n rows2.c)] R h := by kernel_rfl
theorem tags_Maker_Mac.calls {m0 : Option Addr} {key1 : Sl} {rows2 : Sl} {R : Value → Heap → Prop} {h : Heap} (H : tags_Maker_Mac.body m0 key1 rows2 R h) : HC Try.prog F.tags_Maker_Mac #[(.pointer m0), (.slice key1.a key1.n key1.c), (.slice rows2.a rows2.n rows2.c)] R h :=
  evFn_sound mixed Try.func30 (by kernel_rfl) (tags_Maker_Mac.eq m0 key1 rows2 R h ▸ H)

/-! zugzwang/zugzwanglaw04.told -/
def law04_told.body (m0 : Option Addr) (x1 : Array Value) (R : Value → Heap → Prop) (h : Heap) : Prop :=
  newK h x1 T.zugzwanglaw04_Ask (fun (x_1 : Option Addr) (h : Heap) =>
  newK h (zerosOf Try.prog T.api_Tag) T.api_Tag (fun (v_2 : Option Addr) (h : Heap) =>
  fldK x_1 0 (fun (a_3 : Addr) =>
  loadK (.int .i64) h ((some a_3)) (fun (v_4 : Int) =>
  callK Try.prog (.int .i64) F.kit_Pick #[(.int .i64 v_4), (.int .i64 3)] (fun (v_5 : Int) (h : Heap) =>
  if (v_5 == 0) = true then
  fldK x_1 2 (fun (a_6 : Addr) =>
  loadK .slice h ((some a_6)) (fun (v_7 : Sl) =>
  callK Try.prog .agg F.tags_Maker_Sum #[(.pointer m0), (.slice v_7.a v_7.n v_7.c)] (fun (v_8 : Array Value) (h : Heap) =>
  storeAggK (sizeOfT Try.prog T.api_Tag) h v_2 v_8 (fun (h : Heap) =>
  quietK Try.prog .agg (Instr.loadAt T.api_Tag (.pointer v_2)) (fun (r_9 : Array Value) =>
  R (.agg r_9) h) h)) h))
  else
  if (v_5 == 1) = true then
  fldK x_1 1 (fun (a_10 : Addr) =>
  loadK .slice h ((some a_10)) (fun (v_11 : Sl) =>
  fldK x_1 2 (fun (a_12 : Addr) =>
  loadK .slice h ((some a_12)) (fun (v_13 : Sl) =>
  callK Try.prog .agg F.tags_Maker_Mac #[(.pointer m0), (.slice v_11.a v_11.n v_11.c), (.slice v_13.a v_13.n v_13.c)] (fun (v_14 : Array Value) (h : Heap) =>
  storeAggK (sizeOfT Try.prog T.api_Tag) h v_2 v_14 (fun (h : Heap) =>
  quietK Try.prog .agg (Instr.loadAt T.api_Tag (.pointer v_2)) (fun (r_15 : Array Value) =>
  R (.agg r_15) h) h)) h))))
  else
  fldK x_1 3 (fun (a_16 : Addr) =>
  loadK (.int .i64) h ((some a_16)) (fun (v_17 : Int) =>
  callK Try.prog .agg F.tags_Maker_Draw #[(.pointer m0), (.int .i64 v_17)] (fun (v_18 : Array Value) (h : Heap) =>
  storeAggK (sizeOfT Try.prog T.api_Tag) h v_2 v_18 (fun (h : Heap) =>
  quietK Try.prog .agg (Instr.loadAt T.api_Tag (.pointer v_2)) (fun (r_19 : Array Value) =>
  R (.agg r_19) h) h)) h))) h))))
def law04_told.ann : Ann := (.seq .leaf (.seq (.seq .leaf (.block (.seq .leaf (.cond (.seq .leaf .leaf) (.seq .leaf (.cond (.seq .leaf .leaf) .leaf)))))) (.seq .leaf .leaf)))
theorem law04_told.eq (m0 : Option Addr) (x1 : Array Value) (R : Value → Heap → Prop) (h : Heap) : law04_told.body m0 x1 R h = evFn Try.prog Try.f10 law04_told.ann [(.pointer m0), (.agg x1)] R h := by kernel_rfl
theorem law04_told.calls {m0 : Option Addr} {x1 : Array Value} {R : Value → Heap → Prop} {h : Heap} (H : law04_told.body m0 x1 R h) : HC Try.prog F.law04_told #[(.pointer m0), (.agg x1)] R h :=
  evFn_sound mixed Try.func10 (by kernel_rfl) (law04_told.eq m0 x1 R h ▸ H)

/-! zugzwang/zugzwangref02.Join -/
def ref02_Join.body (rows0 : Sl) (R : Value → Heap → Prop) (h : Heap) : Prop :=
  newSlK h 0 #[] T.uint8 (fun (v_1 : Sl) (h : Heap) =>
  loopW (fun X_3 (s_2 : Sl × Int) (h : Heap) =>
  if (decide (s_2.2 < ((rows0.n : Int)))) = true then
  idxK rows0 s_2.2 (sizeOfT Try.prog T.sl_uint8) (fun (a_4 : Addr) =>
  loadK .slice h ((some a_4)) (fun (v_5 : Sl) =>
  opK Try.prog .slice (Builtin.append_ #[T.sl_uint8, T.sl_uint8] T.sl_uint8 #[(.slice s_2.1.a s_2.1.n s_2.1.c), (.slice v_5.a v_5.n v_5.c)]) (fun (v_6 : Sl) (h : Heap) =>
  X_3 (v_6, IntKind.i64.wrap (s_2.2 + 1)) h) h))
  else
  R (.slice s_2.1.a s_2.1.n s_2.1.c) h) (v_1, 0) h)
def ref02_Join.ann : Ann := (.seq .leaf (.seq .leaf (.seq (.seq .leaf (.block (.loop [(3, .slice), (4, (.int .i64))] (.seq (.seq .leaf (.cond .leaf .leaf)) (.seq (.block .leaf) .leaf))))) (.seq .leaf .leaf))))
theorem ref02_Join.eq (rows0 : Sl) (R : Value → Heap → Prop) (h : Heap) : ref02_Join.body rows0 R h = evFn Try.prog Try.f11 ref02_Join.ann [(.slice rows0.a rows0.n rows0.c)] R h := by kernel_rfl
theorem ref02_Join.calls {rows0 : Sl} {R : Value → Heap → Prop} {h : Heap} (H : ref02_Join.body rows0 R h) : HC Try.prog F.ref02_Join #[(.slice rows0.a rows0.n rows0.c)] R h :=
  evFn_sound mixed Try.func11 (by kernel_rfl) (ref02_Join.eq rows0 R h ▸ H)

/-! maps.Clone[map[zugzwang/tags.thing]int,zugzwang/tags.thing,int] -/
def maps_Clone_map_tags_thing_int_tags_thing_int.body (m0 : Option Nat) (R : Value → Heap → Prop) (h : Heap) : Prop :=
  if m0.isNone = true then
  R (.map none) h
  else
  opK Try.prog .any (Instr.makeInterface T.map_atags_thing_int (.map m0)) (fun (v_1 : Value) (h : Heap) =>
  externK Try.prog .any F.maps_clone #[v_1] (fun (v_2 : Value) (h : Heap) =>
  opK Try.prog .map (Instr.typeAssert v_2 T.interface20 T.map_atags_thing_int false) (fun (v_3 : Option Nat) (h : Heap) =>
  R (.map v_3) h) h) h) h
def maps_Clone_map_tags_thing_int_tags_thing_int.ann : Ann := (.seq .leaf (.seq (.seq .leaf (.cond (.seq .leaf .leaf) .leaf)) (.seq .leaf .leaf)))
theorem maps_Clone_map_tags_thing_int_tags_thing_int.eq (m0 : Option Nat) (R : Value → Heap → Prop) (h : Heap) : maps_Clone_map_tags_thing_int_tags_thing_int.body m0 R h = evFn Try.prog Try.f32 maps_Clone_map_tags_thing_int_tags_thing_int.ann [(.map m0)] R h := by kernel_rfl
theorem maps_Clone_map_tags_thing_int_tags_thing_int.calls {m0 : Option Nat} {R : Value → Heap → Prop} {h : Heap} (H : maps_Clone_map_tags_thing_int_tags_thing_int.body m0 R h) : HC Try.prog F.maps_Clone_map_tags_thing_int_tags_thing_int #[(.map m0)] R h :=
  evFn_sound mixed Try.func32 (by kernel_rfl) (maps_Clone_map_tags_thing_int_tags_thing_int.eq m0 R h ▸ H)

/-! (*zugzwang/tags.Maker).Copy -/
def tags_Maker_Copy.body (m0 : Option Addr) (R : Value → Heap → Prop) (h : Heap) : Prop :=
  callK Try.prog .bool F.tags_Maker_there #[(.pointer m0)] (fun (v_1 : Bool) (h : Heap) =>
  if (!v_1) = true then
  R (.pointer none) h
  else
  derefK m0 (fun (a_2 : Addr) =>
  fldK ((some a_2)) 0 (fun (a_3 : Addr) =>
  fldK ((some a_3)) 0 (fun (a_4 : Addr) =>
  derefK m0 (fun (a_5 : Addr) =>
  fldK ((some a_5)) 1 (fun (a_6 : Addr) =>
  derefK m0 (fun (a_7 : Addr) =>
  fldK ((some a_7)) 2 (fun (a_8 : Addr) =>
  loadK .map h ((some a_4)) (fun (v_9 : Option Nat) =>
  loadK .bool h ((some a_6)) (fun (v_10 : Bool) =>
  loadK .slice h ((some a_8)) (fun (v_11 : Sl) =>
  callK Try.prog .map F.maps_Clone_map_tags_thing_int_tags_thing_int #[(.map v_9)] (fun (v_12 : Option Nat) (h : Heap) =>
  stillK .slice h ((some a_8)) v_11 ∧
  stillK .bool h ((some a_6)) v_10 ∧
  buildK Try.prog (Instr.build T.tags_book #[(0, (.map v_12))]) (fun (v_13 : Array Value) =>
  callK Try.prog .slice F.slices_Clone_byte_byte #[(.slice v_11.a v_11.n v_11.c)] (fun (v_14 : Sl) (h : Heap) =>
  stillK .bool h ((some a_6)) v_10 ∧
  buildK Try.prog (Instr.build T.tags_Maker #[(0, (.agg v_13)), (1, (.bool v_10)), (2, (.slice v_14.a v_14.n v_14.c))]) (fun (v_15 : Array Value) =>
  newK h v_15 T.tags_Maker (fun (v_16 : Option Addr) (h : Heap) =>
  R (.pointer v_16) h))) h)) h))))))))))) h
def tags_Maker_Copy.ann : Ann := (.seq .leaf (.seq (.seq .leaf (.cond (.seq .leaf .leaf) .leaf)) (.seq (.any (.loc 0 (.loc 1 (.loc 2 (.loc 3 (.loc 7 (.loc 8 (.loc 9 (.loc 11 (.loc 12 (.loc 13 (.st 4 491616 (.st 10 458752 (.st 14 491520 (.last 5 (.loc 6 (.last 15 (.loc 16 (.last 17 (.loc 18 .done)))))))))))))))))))) .leaf)))
theorem tags_Maker_Copy.eq (m0 : Option Addr) (R : Value → Heap → Prop) (h : Heap) : tags_Maker_Copy.body m0 R h = evFn Try.prog Try.f12 tags_Maker_Copy.ann [(.pointer m0)] R h := by kernel_rfl
theorem tags_Maker_Copy.calls {m0 : Option Addr} {R : Value → Heap → Prop} {h : Heap} (H : tags_Maker_Copy.body m0 R h) : HC Try.prog F.tags_Maker_Copy #[(.pointer m0)] R h :=
  evFn_sound mixed Try.func12 (by kernel_rfl) (tags_Maker_Copy.eq m0 R h ▸ H)

/-! zugzwang/zugzwanglaw04.TagsReal -/
def law04_TagsReal.body (l0 : Sl) (seed1 : Sl) (x2 : Array Value) (R : Value → Heap → Prop) (h : Heap) : Prop :=
  newK h x2 T.zugzwanglaw04_Ask (fun (x_1 : Option Addr) (h : Heap) =>
  callK Try.prog .bool F.law04_awake #[] (fun (v_2 : Bool) (h : Heap) =>
  if (!v_2) = true then
  R (.bool false) h
  else
  joinW (fun (s_3 : Unit) (h : Heap) =>
  callK Try.prog .ptr F.tags_New #[(.bool true), (.slice seed1.a seed1.n seed1.c)] (fun (v_4 : Option Addr) (h : Heap) =>
  callK Try.prog .ptr F.tags_New #[(.bool true), (.slice seed1.a seed1.n seed1.c)] (fun (v_5 : Option Addr) (h : Heap) =>
  callK Try.prog .ptr F.tags_New #[(.bool true), (.slice none 0 0)] (fun (v_6 : Option Addr) (h : Heap) =>
  loopW (fun X_8 (s_7 : Int) (h : Heap) =>
  if (decide (s_7 < ((l0.n : Int)))) = true then
  idxK l0 s_7 (sizeOfT Try.prog T.zugzwanglaw04_Ask) (fun (a_9 : Addr) =>
  loadAggK (sizeOfT Try.prog T.zugzwanglaw04_Ask) h ((some a_9)) (fun (v_10 : Array Value) =>
  callK Try.prog .agg F.law04_told #[(.pointer v_4), (.agg v_10)] (fun (v_11 : Array Value) (h : Heap) =>
  X_8 (IntKind.i64.wrap (s_7 + 1)) h) h))
  else
  loadAggK (sizeOfT Try.prog T.zugzwanglaw04_Ask) h x_1 (fun (v_12 : Array Value) =>
  callK Try.prog .agg F.law04_told #[(.pointer v_4), (.agg v_12)] (fun (v_13 : Array Value) (h : Heap) =>
  newK h (zerosOf Try.prog T.api_Tag) T.api_Tag (fun (t_14 : Option Addr) (h : Heap) =>
  storeAggK (sizeOfT Try.prog T.api_Tag) h t_14 v_13 (fun (h : Heap) =>
  loadAggK (sizeOfT Try.prog T.zugzwanglaw04_Ask) h x_1 (fun (v_15 : Array Value) =>
  newK h (zerosOf Try.prog T.zugzwanglaw04_Ask) T.zugzwanglaw04_Ask (fun (y_16 : Option Addr) (h : Heap) =>
  storeAggK (sizeOfT Try.prog T.zugzwanglaw04_Ask) h y_16 v_15 (fun (h : Heap) =>
  fldK x_1 2 (fun (a_17 : Addr) =>
  loadK .slice h ((some a_17)) (fun (v_18 : Sl) =>
  callK Try.prog .slice F.ref02_Join #[(.slice v_18.a v_18.n v_18.c)] (fun (v_19 : Sl) (h : Heap) =>
  newSlK h 2 #[(.slice v_19.a v_19.n v_19.c), (.slice none 0 0)] T.sl_uint8 (fun (v_20 : Sl) (h : Heap) =>
  fldK y_16 2 (fun (a_21 : Addr) =>
  storeK h ((some a_21)) (.slice v_20.a v_20.n v_20.c) (fun (h : Heap) =>
  loadAggK (sizeOfT Try.prog T.zugzwanglaw04_Ask) h x_1 (fun (v_22 : Array Value) =>
  loadAggK (sizeOfT Try.prog T.api_Tag) h t_14 (fun (v_23 : Array Value) =>
  callK Try.prog .agg F.law04_told #[(.pointer v_5), (.agg v_22)] (fun (v_24 : Array Value) (h : Heap) =>
  stillAggK (sizeOfT Try.prog T.api_Tag) h t_14 v_23 ∧
  eqK Try.prog (binSem .eql T.api_Tag (.tmp 53) (.tmp 54) (.agg v_24) (.agg v_23)) (fun (v_25 : Bool) =>
  if v_25 = true then
  loadAggK (sizeOfT Try.prog T.zugzwanglaw04_Ask) h y_16 (fun (v_26 : Array Value) =>
  loadAggK (sizeOfT Try.prog T.api_Tag) h t_14 (fun (v_27 : Array Value) =>
  callK Try.prog .ptr F.tags_Maker_Copy #[(.pointer v_4)] (fun (v_28 : Option Addr) (h : Heap) =>
  stillAggK (sizeOfT Try.prog T.api_Tag) h t_14 v_27 ∧
  stillAggK (sizeOfT Try.prog T.zugzwanglaw04_Ask) h y_16 v_26 ∧
  callK Try.prog .agg F.law04_told #[(.pointer v_28), (.agg v_26)] (fun (v_29 : Array Value) (h : Heap) =>
  stillAggK (sizeOfT Try.prog T.api_Tag) h t_14 v_27 ∧
  eqK Try.prog (binSem .eql T.api_Tag (.tmp 60) (.tmp 61) (.agg v_29) (.agg v_27)) (fun (v_30 : Bool) =>
  if v_30 = true then
  fldK x_1 0 (fun (a_31 : Addr) =>
  loadK (.int .i64) h ((some a_31)) (fun (v_32 : Int) =>
  callK Try.prog (.int .i64) F.kit_Pick #[(.int .i64 v_32), (.int .i64 3)] (fun (v_33 : Int) (h : Heap) =>
  if (v_33 == 2) = true then
  callK Try.prog (.int .i64) F.tags_Maker_Len #[(.pointer v_4)] (fun (v_34 : Int) (h : Heap) =>
  if (v_34 == 0) = true then
  loadAggK (sizeOfT Try.prog T.api_Tag) h t_14 (fun (v_35 : Array Value) =>
  callK Try.prog .bool F.tags_Maker_Told #[(.pointer v_4), (.agg v_35)] (fun (v_36 : Bool) (h : Heap) =>
  if (!v_36) = true then
  callK Try.prog .bool F.tags_Maker_Real #[(.pointer v_4)] (fun (v_37 : Bool) (h : Heap) =>
  R (.bool v_37) h) h
  else
  R (.bool false) h) h)
  else
  R (.bool false) h) h
  else
  loadAggK (sizeOfT Try.prog T.zugzwanglaw04_Ask) h x_1 (fun (v_38 : Array Value) =>
  loadAggK (sizeOfT Try.prog T.api_Tag) h t_14 (fun (v_39 : Array Value) =>
  callK Try.prog .agg F.law04_told #[(.pointer v_6), (.agg v_38)] (fun (v_40 : Array Value) (h : Heap) =>
  stillAggK (sizeOfT Try.prog T.api_Tag) h t_14 v_39 ∧
  eqK Try.prog (binSem .eql T.api_Tag (.tmp 72) (.tmp 73) (.agg v_40) (.agg v_39)) (fun (v_41 : Bool) =>
  if v_41 = true then
  callK Try.prog (.int .i64) F.tags_Maker_Len #[(.pointer v_4)] (fun (v_42 : Int) (h : Heap) =>
  if (v_42 == 0) = true then
  loadAggK (sizeOfT Try.prog T.api_Tag) h t_14 (fun (v_43 : Array Value) =>
  callK Try.prog .bool F.tags_Maker_Told #[(.pointer v_4), (.agg v_43)] (fun (v_44 : Bool) (h : Heap) =>
  if (!v_44) = true then
  callK Try.prog .bool F.tags_Maker_Real #[(.pointer v_4)] (fun (v_45 : Bool) (h : Heap) =>
  R (.bool v_45) h) h
  else
  R (.bool false) h) h)
  else
  R (.bool false) h) h
  else
  R (.bool false) h)) h))) h))
  else
  R (.bool false) h)) h) h))
  else
  R (.bool false) h)) h)))))) h)))))))) h)) 0 h) h) h) h)
  (fun J_46 =>
  loadAggK (sizeOfT Try.prog T.zugzwanglaw04_Ask) h x_1 (fun (v_47 : Array Value) =>
  ((callK Try.prog (.int .i64) F.law04_size #[(.slice l0.a l0.n l0.c)] (fun (v_48 : Int) (h : Heap) =>
  stillAggK (sizeOfT Try.prog T.zugzwanglaw04_Ask) h x_1 v_47 ∧
  opK Try.prog .slice (Instr.buildSlice T.sl_zugzwanglaw04_Ask 1 #[(0, (.agg v_47))]) (fun (v_49 : Sl) (h : Heap) =>
  callK Try.prog (.int .i64) F.law04_size #[(.slice v_49.a v_49.n v_49.c)] (fun (v_50 : Int) (h : Heap) =>
  if (decide ((IntKind.i64.wrap ((IntKind.i64.wrap (v_48 + ((seed1.n : Int)))) + v_50)) > 400)) = true then
  R (.bool true) h
  else
  J_46 () h) h) h) h) ∧
  (opK Try.prog .slice (Instr.buildSlice T.sl_zugzwanglaw04_Ask 1 #[(0, (.agg v_47))]) (fun (v_51 : Sl) (h : Heap) =>
  callK Try.prog (.int .i64) F.law04_size #[(.slice l0.a l0.n l0.c)] (fun (v_52 : Int) (h : Heap) =>
  callK Try.prog (.int .i64) F.law04_size #[(.slice v_51.a v_51.n v_51.c)] (fun (v_53 : Int) (h : Heap) =>
  if (decide ((IntKind.i64.wrap ((IntKind.i64.wrap (v_52 + ((seed1.n : Int)))) + v_53)) > 400)) = true then
  R (.bool true) h
  else
  J_46 () h) h) h) h))))) h)
def law04_TagsReal.ann : Ann := (.seq .leaf (.seq (.seq .leaf (.cond (.seq .leaf .leaf) .leaf)) (.join [] (.seq (.any (.loc 0 (.loc 2 (.loc 3 (.st 5 960 (.alt 1 (.loc 4 (.last 6 (.last 7 (.loc 8 (.loc 9 .done))))) (.last 6 (.last 1 (.loc 4 (.last 7 (.loc 8 (.loc 9 .done)))))))))))) (.cond (.seq .leaf .leaf) .leaf)) (.seq .leaf (.seq (.seq .leaf (.block (.loop [(10, (.int .i64))] (.seq (.seq .leaf (.cond .leaf .leaf)) (.seq (.block .leaf) .leaf))))) (.seq .leaf (.seq .leaf (.seq .leaf (.seq (.any (.loc 0 (.st 1 4398046511092 (.st 3 4398046511088 (.last 2 (.loc 4 (.loc 5 (.locA 6 (.st 8 4398046509568 (.st 10 4398046509056 (.last 7 (.last 9 (.loc 11 (.loc 12 (.loc 13 (.locA 14 (.st 15 4398046445568 (.last 16 (.loc 17 (.loc 18 (.locA 19 (.loc 20 (.loc 21 (.loc 22 (.loc 23 (.loc 24 (.loc 25 (.loc 26 (.loc 27 (.last 28 (.loc 29 (.loc 30 (.loc 31 (.locA 32 (.st 33 4380866641920 (.last 34 (.loc 35 (.loc 36 (.loc 37 (.locA 38 (.last 39 (.loc 40 (.loc 41 .done))) (.loc 39 (.loc 40 (.loc 41 .done))))))))) (.loc 33 (.loc 34 (.loc 35 (.loc 36 (.loc 37 (.loc 38 (.loc 39 (.loc 40 (.loc 41 .done)))))))))))))))))))))) (.st 20 4398040219648 (.st 22 4398038122496 (.last 21 (.loc 23 (.loc 24 (.loc 25 (.loc 26 (.locA 27 (.last 28 (.loc 29 (.loc 30 (.loc 31 (.locA 32 (.st 33 4380866641920 (.last 34 (.loc 35 (.loc 36 (.loc 37 (.locA 38 (.last 39 (.loc 40 (.loc 41 .done))) (.loc 39 (.loc 40 (.loc 41 .done))))))))) (.loc 33 (.loc 34 (.loc 35 (.loc 36 (.loc 37 (.loc 38 (.loc 39 (.loc 40 (.loc 41 .done)))))))))))))) (.loc 28 (.loc 29 (.loc 30 (.loc 31 (.loc 32 (.loc 33 (.loc 34 (.loc 35 (.loc 36 (.loc 37 (.loc 38 (.loc 39 (.loc 40 (.loc 41 .done))))))))))))))))))))))))))) (.loc 15 (.loc 16 (.loc 17 (.loc 18 (.loc 19 (.loc 20 (.loc 21 (.loc 22 (.loc 23 (.loc 24 (.loc 25 (.loc 26 (.loc 27 (.loc 28 (.loc 29 (.loc 30 (.loc 31 (.loc 32 (.loc 33 (.loc 34 (.loc 35 (.loc 36 (.loc 37 (.loc 38 (.loc 39 (.loc 40 (.loc 41 .done))))))))))))))))))))))))))))))))))) (.loc 7 (.loc 8 (.loc 9 (.loc 10 (.loc 11 (.loc 12 (.loc 13 (.loc 14 (.loc 15 (.loc 16 (.loc 17 (.loc 18 (.loc 19 (.loc 20 (.loc 21 (.loc 22 (.loc 23 (.loc 24 (.loc 25 (.loc 26 (.loc 27 (.loc 28 (.loc 29 (.loc 30 (.loc 31 (.loc 32 (.loc 33 (.loc 34 (.loc 35 (.loc 36 (.loc 37 (.loc 38 (.loc 39 (.loc 40 (.loc 41 .done))))))))))))))))))))))))))))))))))))))))))) .leaf)))))))))
theorem law04_TagsReal.eq (l0 : Sl) (seed1 : Sl) (x2 : Array Value) (R : Value → Heap → Prop) (h : Heap) : law04_TagsReal.body l0 seed1 x2 R h = evFn Try.prog Try.f3 law04_TagsReal.ann [(.slice l0.a l0.n l0.c), (.slice seed1.a seed1.n seed1.c), (.agg x2)] R h := by kernel_rfl
theorem law04_TagsReal.calls {l0 : Sl} {seed1 : Sl} {x2 : Array Value} {R : Value → Heap → Prop} {h : Heap} (H : law04_TagsReal.body l0 seed1 x2 R h) : HC Try.prog F.law04_TagsReal #[(.slice l0.a l0.n l0.c), (.slice seed1.a seed1.n seed1.c), (.agg x2)] R h :=
  evFn_sound mixed Try.func3 (by kernel_rfl) (law04_TagsReal.eq l0 seed1 x2 R h ▸ H)

/-! bytes.IndexByte -/
def bytes_IndexByte.body (b0 : Sl) (c1 : Int) (R : Value → Heap → Prop) (h : Heap) : Prop :=
  externK Try.prog (.int .i64) F.internal_bytealg_IndexByte #[(.slice b0.a b0.n b0.c), (.int .u8 c1)] (fun (v_1 : Int) (h : Heap) =>
  R (.int .i64 v_1) h) h
def bytes_IndexByte.ann : Ann := (.seq .leaf (.seq .leaf .leaf))
theorem bytes_IndexByte.eq (b0 : Sl) (c1 : Int) (R : Value → Heap → Prop) (h : Heap) : bytes_IndexByte.body b0 c1 R h = evFn Try.prog Try.f70 bytes_IndexByte.ann [(.slice b0.a b0.n b0.c), (.int .u8 c1)] R h := by kernel_rfl
theorem bytes_IndexByte.calls {b0 : Sl} {c1 : Int} {R : Value → Heap → Prop} {h : Heap} (H : bytes_IndexByte.body b0 c1 R h) : HC Try.prog F.bytes_IndexByte #[(.slice b0.a b0.n b0.c), (.int .u8 c1)] R h :=
  evFn_sound mixed Try.func70 (by kernel_rfl) (bytes_IndexByte.eq b0 c1 R h ▸ H)

/-! bytes.Equal -/
def bytes_Equal.body (a0 : Sl) (b1 : Sl) (R : Value → Heap → Prop) (h : Heap) : Prop :=
  opK Try.prog .str (convert T.sl_uint8 T.string (.slice a0.a a0.n a0.c)) (fun (v_1 : ByteArray) (h : Heap) =>
  opK Try.prog .str (convert T.sl_uint8 T.string (.slice b1.a b1.n b1.c)) (fun (v_2 : ByteArray) (h : Heap) =>
  R (.bool (v_1.toList == v_2.toList)) h) h) h
def bytes_Equal.ann : Ann := (.seq .leaf (.seq .leaf .leaf))
theorem bytes_Equal.eq (a0 : Sl) (b1 : Sl) (R : Value → Heap → Prop) (h : Heap) : bytes_Equal.body a0 b1 R h = evFn Try.prog Try.f71 bytes_Equal.ann [(.slice a0.a a0.n a0.c), (.slice b1.a b1.n b1.c)] R h := by kernel_rfl
theorem bytes_Equal.calls {a0 : Sl} {b1 : Sl} {R : Value → Heap → Prop} {h : Heap} (H : bytes_Equal.body a0 b1 R h) : HC Try.prog F.bytes_Equal #[(.slice a0.a a0.n a0.c), (.slice b1.a b1.n b1.c)] R h :=
  evFn_sound mixed Try.func71 (by kernel_rfl) (bytes_Equal.eq a0 b1 R h ▸ H)

/-! internal/bytealg.Cutover -/
def internal_bytealg_Cutover.body (n0 : Int) (R : Value → Heap → Prop) (h : Heap) : Prop :=
  divK 8
  (R (.int .i64 (IntKind.i64.wrap (Int.tdiv (IntKind.i64.wrap (n0 + 16)) 8))) h)
def internal_bytealg_Cutover.ann : Ann := (.seq .leaf (.seq .leaf .leaf))
theorem internal_bytealg_Cutover.eq (n0 : Int) (R : Value → Heap → Prop) (h : Heap) : internal_bytealg_Cutover.body n0 R h = evFn Try.prog Try.f73 internal_bytealg_Cutover.ann [(.int .i64 n0)] R h := by kernel_rfl
theorem internal_bytealg_Cutover.calls {n0 : Int} {R : Value → Heap → Prop} {h : Heap} (H : internal_bytealg_Cutover.body n0 R h) : HC Try.prog F.internal_bytealg_Cutover #[(.int .i64 n0)] R h :=
  evFn_sound mixed Try.func73 (by kernel_rfl) (internal_bytealg_Cutover.eq n0 R h ▸ H)

/-! internal/bytealg.hashStr[[]byte] -/
def internal_bytealg_hashStr_byte.body (sep0 : Sl) (R : Value → Heap → Prop) (h : Heap) : Prop :=
  loopW (fun X_2 (s_1 : Int × Int) (h : Heap) =>
  if (decide (s_1.2 < ((sep0.n : Int)))) = true then
  idxK sep0 s_1.2 (sizeOfT Try.prog T.uint8) (fun (a_3 : Addr) =>
  loadK (.int .u8) h ((some a_3)) (fun (v_4 : Int) =>
  X_2 (IntKind.u32.wrap ((IntKind.u32.wrap (s_1.1 * 16777619)) + (IntKind.u32.wrap v_4)), IntKind.i64.wrap (s_1.2 + 1)) h))
  else
  loopW (fun X_6 (s_5 : Int × Int × Int) (h : Heap) =>
  if (decide (s_5.2.2 > 0)) = true then
  if ((IntKind.i64.wrap (BitVec.ofInt (IntKind.bits .i64) s_5.2.2 &&& BitVec.ofInt (IntKind.bits .i64) 1).toNat) != 0) = true then
  shiftK 1
  (X_6 (IntKind.u32.wrap (s_5.1 * s_5.2.1), IntKind.u32.wrap (s_5.2.1 * s_5.2.1), Int.fdiv s_5.2.2 (2 ^ min (Int.toNat 1) (IntKind.bits .i64))) h)
  else
  shiftK 1
  (X_6 (s_5.1, IntKind.u32.wrap (s_5.2.1 * s_5.2.1), Int.fdiv s_5.2.2 (2 ^ min (Int.toNat 1) (IntKind.bits .i64))) h)
  else
  R (.tuple #[(.int .u32 s_1.1), (.int .u32 s_5.1)]) h) (1, 16777619, (sep0.n : Int)) h) (0, 0) h
def internal_bytealg_hashStr_byte.ann : Ann := (.seq .leaf (.seq .leaf (.seq (.seq .leaf (.block (.loop [(4, (.int .u32)), (5, (.int .i64))] (.seq (.seq .leaf (.cond .leaf .leaf)) (.seq (.block .leaf) .leaf))))) (.seq .leaf (.seq (.seq .leaf (.block (.loop [(6, (.int .u32)), (7, (.int .u32)), (8, (.int .i64))] (.seq (.seq .leaf (.cond .leaf .leaf)) (.seq (.block (.seq (.seq .leaf (.cond .leaf .leaf)) .leaf)) .leaf))))) (.seq .leaf .leaf))))))
theorem internal_bytealg_hashStr_byte.eq (sep0 : Sl) (R : Value → Heap → Prop) (h : Heap) : internal_bytealg_hashStr_byte.body sep0 R h = evFn Try.prog Try.f86 internal_bytealg_hashStr_byte.ann [(.slice sep0.a sep0.n sep0.c)] R h := by kernel_rfl
theorem internal_bytealg_hashStr_byte.calls {sep0 : Sl} {R : Value → Heap → Prop} {h : Heap} (H : internal_bytealg_hashStr_byte.body sep0 R h) : HC Try.prog F.internal_bytealg_hashStr_byte #[(.slice sep0.a sep0.n sep0.c)] R h :=
  evFn_sound mixed Try.func86 (by kernel_rfl) (internal_bytealg_hashStr_byte.eq sep0 R h ▸ H)

/-! internal/bytealg.IndexRabinKarp[[]byte] -/
def internal_bytealg_IndexRabinKarp_byte.body (s0 : Sl) (sep1 : Sl) (R : Value → Heap → Prop) (h : Heap) : Prop :=
  callK Try.prog (Kd.pair (.int .u32) (.int .u32)) F.internal_bytealg_hashStr_byte #[(.slice sep1.a sep1.n sep1.c)] (fun (v_1 : Int × Int) (h : Heap) =>
  loopW (fun X_3 (s_2 : Int × Int) (h : Heap) =>
  if (decide (s_2.2 < ((sep1.n : Int)))) = true then
  idxK s0 s_2.2 (sizeOfT Try.prog T.uint8) (fun (a_4 : Addr) =>
  loadK (.int .u8) h ((some a_4)) (fun (v_5 : Int) =>
  X_3 (IntKind.u32.wrap ((IntKind.u32.wrap (s_2.1 * 16777619)) + (IntKind.u32.wrap v_5)), IntKind.i64.wrap (s_2.2 + 1)) h))
  else
  joinW (fun (s_6 : Unit) (h : Heap) =>
  loopW (fun X_8 (s_7 : Int × Int) (h : Heap) =>
  if (decide (s_7.2 < ((s0.n : Int)))) = true then
  idxK s0 s_7.2 (sizeOfT Try.prog T.uint8) (fun (a_9 : Addr) =>
  loadK (.int .u8) h ((some a_9)) (fun (v_10 : Int) =>
  idxK s0 (IntKind.i64.wrap (s_7.2 - ((sep1.n : Int)))) (sizeOfT Try.prog T.uint8) (fun (a_11 : Addr) =>
  loadK (.int .u8) h ((some a_11)) (fun (v_12 : Int) =>
  if ((IntKind.u32.wrap ((IntKind.u32.wrap ((IntKind.u32.wrap (s_7.1 * 16777619)) + (IntKind.u32.wrap v_10))) - (IntKind.u32.wrap (v_1.2 * (IntKind.u32.wrap v_12))))) == v_1.1) = true then
  sliceK s0 (some (IntKind.i64.wrap ((IntKind.i64.wrap (s_7.2 + 1)) - ((sep1.n : Int))))) (some (IntKind.i64.wrap (s_7.2 + 1))) none (sizeOfT Try.prog T.uint8) (fun (v_13 : Sl) =>
  ((opK Try.prog .str (convert T.sl_uint8 T.string (.slice v_13.a v_13.n v_13.c)) (fun (v_14 : ByteArray) (h : Heap) =>
  opK Try.prog .str (convert T.sl_uint8 T.string (.slice sep1.a sep1.n sep1.c)) (fun (v_15 : ByteArray) (h : Heap) =>
  if (v_14.toList == v_15.toList) = true then
  R (.int .i64 (IntKind.i64.wrap ((IntKind.i64.wrap (s_7.2 + 1)) - ((sep1.n : Int))))) h
  else
  X_8 (IntKind.u32.wrap ((IntKind.u32.wrap ((IntKind.u32.wrap (s_7.1 * 16777619)) + (IntKind.u32.wrap v_10))) - (IntKind.u32.wrap (v_1.2 * (IntKind.u32.wrap v_12)))), IntKind.i64.wrap (s_7.2 + 1)) h) h) h) ∧
  (opK Try.prog .str (convert T.sl_uint8 T.string (.slice sep1.a sep1.n sep1.c)) (fun (v_16 : ByteArray) (h : Heap) =>
  opK Try.prog .str (convert T.sl_uint8 T.string (.slice v_13.a v_13.n v_13.c)) (fun (v_17 : ByteArray) (h : Heap) =>
  if (v_17.toList == v_16.toList) = true then
  R (.int .i64 (IntKind.i64.wrap ((IntKind.i64.wrap (s_7.2 + 1)) - ((sep1.n : Int))))) h
  else
  X_8 (IntKind.u32.wrap ((IntKind.u32.wrap ((IntKind.u32.wrap (s_7.1 * 16777619)) + (IntKind.u32.wrap v_10))) - (IntKind.u32.wrap (v_1.2 * (IntKind.u32.wrap v_12)))), IntKind.i64.wrap (s_7.2 + 1)) h) h) h)))
  else
  X_8 (IntKind.u32.wrap ((IntKind.u32.wrap ((IntKind.u32.wrap (s_7.1 * 16777619)) + (IntKind.u32.wrap v_10))) - (IntKind.u32.wrap (v_1.2 * (IntKind.u32.wrap v_12)))), IntKind.i64.wrap (s_7.2 + 1)) h))))
  else
  R (.int .i64 ((-1))) h) (s_2.1, (sep1.n : Int)) h)
  (fun J_18 =>
  if (s_2.1 == v_1.1) = true then
  sliceK s0 none (some ((sep1.n : Int))) none (sizeOfT Try.prog T.uint8) (fun (v_19 : Sl) =>
  ((opK Try.prog .str (convert T.sl_uint8 T.string (.slice v_19.a v_19.n v_19.c)) (fun (v_20 : ByteArray) (h : Heap) =>
  opK Try.prog .str (convert T.sl_uint8 T.string (.slice sep1.a sep1.n sep1.c)) (fun (v_21 : ByteArray) (h : Heap) =>
  if (v_20.toList == v_21.toList) = true then
  R (.int .i64 0) h
  else
  J_18 () h) h) h) ∧
  (opK Try.prog .str (convert T.sl_uint8 T.string (.slice sep1.a sep1.n sep1.c)) (fun (v_22 : ByteArray) (h : Heap) =>
  opK Try.prog .str (convert T.sl_uint8 T.string (.slice v_19.a v_19.n v_19.c)) (fun (v_23 : ByteArray) (h : Heap) =>
  if (v_23.toList == v_22.toList) = true then
  R (.int .i64 0) h
  else
  J_18 () h) h) h)))
  else
  J_18 () h)) (0, 0) h) h
def internal_bytealg_IndexRabinKarp_byte.ann : Ann := (.seq .leaf (.seq .leaf (.seq .leaf (.seq .leaf (.seq (.seq .leaf (.block (.loop [(8, (.int .u32)), (9, (.int .i64))] (.seq (.seq .leaf (.cond .leaf .leaf)) (.seq (.block .leaf) .leaf))))) (.join [] (.seq (.any (.loc 0 (.loc 1 (.loc 2 (.loc 3 (.locA 4 (.loc 5 (.loc 6 (.loc 8 (.alt 7 (.last 9 (.loc 10 (.loc 11 .done))) (.last 9 (.last 7 (.loc 10 (.loc 11 .done)))))))) (.loc 5 (.loc 6 (.loc 7 (.loc 8 (.loc 9 (.loc 10 (.loc 11 .done))))))))))))) (.cond (.seq .leaf .leaf) .leaf)) (.seq (.seq .leaf (.block (.loop [(8, (.int .u32)), (10, (.int .i64))] (.seq (.seq .leaf (.cond .leaf .leaf)) (.block (.seq .leaf (.seq .leaf (.seq .leaf (.seq .leaf (.seq (.any (.loc 0 (.loc 1 (.loc 2 (.loc 3 (.locA 4 (.loc 5 (.loc 6 (.loc 7 (.loc 8 (.loc 9 (.loc 11 (.alt 10 (.last 12 (.loc 13 (.loc 14 .done))) (.last 12 (.last 10 (.loc 13 (.loc 14 .done))))))))))) (.loc 5 (.loc 6 (.loc 7 (.loc 8 (.loc 9 (.loc 10 (.loc 11 (.loc 12 (.loc 13 (.loc 14 .done)))))))))))))))) (.cond (.seq .leaf .leaf) .leaf))))))))))) (.seq .leaf .leaf))))))))
theorem internal_bytealg_IndexRabinKarp_byte.eq (s0 : Sl) (sep1 : Sl) (R : Value → Heap → Prop) (h : Heap) : internal_bytealg_IndexRabinKarp_byte.body s0 sep1 R h = evFn Try.prog Try.f74 internal_bytealg_IndexRabinKarp_byte.ann [(.slice s0.a s0.n s0.c), (.slice sep1.a sep1.n sep1.c)] R h := by kernel_rfl
theorem internal_bytealg_IndexRabinKarp_byte.calls {s0 : Sl} {sep1 : Sl} {R : Value → Heap → Prop} {h : Heap} (H : internal_bytealg_IndexRabinKarp_byte.body s0 sep1 R h) : HC Try.prog F.internal_bytealg_IndexRabinKarp_byte #[(.slice s0.a s0.n s0.c), (.slice sep1.a sep1.n sep1.c)] R h :=
  evFn_sound mixed Try.func74 (by kernel_rfl) (internal_bytealg_IndexRabinKarp_byte.eq s0 sep1 R h ▸ H)

/-! bytes.Index -/
def bytes_Index.body (s0 : Sl) (sep1 : Sl) (R : Value → Heap → Prop) (h : Heap) : Prop :=
  if (((sep1.n : Int)) == 0) = true then
  R (.int .i64 0) h
  else
  if (((sep1.n : Int)) == 1) = true then
  idxK sep1 0 (sizeOfT Try.prog T.uint8) (fun (a_1 : Addr) =>
  loadK (.int .u8) h ((some a_1)) (fun (v_2 : Int) =>
  callK Try.prog (.int .i64) F.bytes_IndexByte #[(.slice s0.a s0.n s0.c), (.int .u8 v_2)] (fun (v_3 : Int) (h : Heap) =>
  R (.int .i64 v_3) h) h))
  else
  if (((sep1.n : Int)) == ((s0.n : Int))) = true then
  callK Try.prog .bool F.bytes_Equal #[(.slice sep1.a sep1.n sep1.c), (.slice s0.a s0.n s0.c)] (fun (v_4 : Bool) (h : Heap) =>
  if v_4 = true then
  R (.int .i64 0) h
  else
  R (.int .i64 ((-1))) h) h
  else
  if (decide (((sep1.n : Int)) > ((s0.n : Int)))) = true then
  R (.int .i64 ((-1))) h
  else
  loadK (.int .i64) h ((some ⟨0, 0, none⟩)) (fun (v_5 : Int) =>
  if (decide (((sep1.n : Int)) ≤ v_5)) = true then
  if (decide (((s0.n : Int)) ≤ 64)) = true then
  externK Try.prog (.int .i64) F.internal_bytealg_Index #[(.slice s0.a s0.n s0.c), (.slice sep1.a sep1.n sep1.c)] (fun (v_6 : Int) (h : Heap) =>
  R (.int .i64 v_6) h) h
  else
  idxK sep1 0 (sizeOfT Try.prog T.uint8) (fun (a_7 : Addr) =>
  loadK (.int .u8) h ((some a_7)) (fun (v_8 : Int) =>
  idxK sep1 1 (sizeOfT Try.prog T.uint8) (fun (a_9 : Addr) =>
  loadK (.int .u8) h ((some a_9)) (fun (v_10 : Int) =>
  loopW (fun X_12 (s_11 : Int × Int) (h : Heap) =>
  if (decide (s_11.1 < (IntKind.i64.wrap ((IntKind.i64.wrap (((s0.n : Int)) - ((sep1.n : Int)))) + 1)))) = true then
  joinW (fun (s_13 : Int) (h : Heap) =>
  joinW (fun (s_14 : Unit) (h : Heap) =>
  callK Try.prog (.int .i64) F.internal_bytealg_Cutover #[(.int .i64 (IntKind.i64.wrap (s_13 + 1)))] (fun (v_15 : Int) (h : Heap) =>
  if (decide ((IntKind.i64.wrap (s_11.2 + 1)) > v_15)) = true then
  sliceK s0 (some (IntKind.i64.wrap (s_13 + 1))) none none (sizeOfT Try.prog T.uint8) (fun (v_16 : Sl) =>
  externK Try.prog (.int .i64) F.internal_bytealg_Index #[(.slice v_16.a v_16.n v_16.c), (.slice sep1.a sep1.n sep1.c)] (fun (v_17 : Int) (h : Heap) =>
  if (decide (v_17 ≥ 0)) = true then
  R (.int .i64 (IntKind.i64.wrap (v_17 + (IntKind.i64.wrap (s_13 + 1))))) h
  else
  R (.int .i64 ((-1))) h) h)
  else
  X_12 (IntKind.i64.wrap (s_13 + 1), IntKind.i64.wrap (s_11.2 + 1)) h) h)
  (fun J_18 =>
  idxK s0 (IntKind.i64.wrap (s_13 + 1)) (sizeOfT Try.prog T.uint8) (fun (a_19 : Addr) =>
  loadK (.int .u8) h ((some a_19)) (fun (v_20 : Int) =>
  if (v_20 == v_10) = true then
  sliceK s0 (some s_13) (some (IntKind.i64.wrap (s_13 + ((sep1.n : Int))))) none (sizeOfT Try.prog T.uint8) (fun (v_21 : Sl) =>
  callK Try.prog .bool F.bytes_Equal #[(.slice v_21.a v_21.n v_21.c), (.slice sep1.a sep1.n sep1.c)] (fun (v_22 : Bool) (h : Heap) =>
  if v_22 = true then
  R (.int .i64 s_13) h
  else
  J_18 () h) h)
  else
  J_18 () h))))
  (fun J_23 =>
  idxK s0 s_11.1 (sizeOfT Try.prog T.uint8) (fun (a_24 : Addr) =>
  loadK (.int .u8) h ((some a_24)) (fun (v_25 : Int) =>
  if (v_25 != v_8) = true then
  sliceK s0 (some (IntKind.i64.wrap (s_11.1 + 1))) (some (IntKind.i64.wrap ((IntKind.i64.wrap (((s0.n : Int)) - ((sep1.n : Int)))) + 1))) none (sizeOfT Try.prog T.uint8) (fun (v_26 : Sl) =>
  callK Try.prog (.int .i64) F.bytes_IndexByte #[(.slice v_26.a v_26.n v_26.c), (.int .u8 v_8)] (fun (v_27 : Int) (h : Heap) =>
  if (decide (v_27 < 0)) = true then
  R (.int .i64 ((-1))) h
  else
  J_23 (IntKind.i64.wrap (s_11.1 + (IntKind.i64.wrap (v_27 + 1)))) h) h)
  else
  J_23 s_11.1 h)))
  else
  R (.int .i64 ((-1))) h) (0, 0) h))))
  else
  idxK sep1 0 (sizeOfT Try.prog T.uint8) (fun (a_28 : Addr) =>
  loadK (.int .u8) h ((some a_28)) (fun (v_29 : Int) =>
  idxK sep1 1 (sizeOfT Try.prog T.uint8) (fun (a_30 : Addr) =>
  loadK (.int .u8) h ((some a_30)) (fun (v_31 : Int) =>
  loopW (fun X_33 (s_32 : Int × Int) (h : Heap) =>
  if (decide (s_32.1 < (IntKind.i64.wrap ((IntKind.i64.wrap (((s0.n : Int)) - ((sep1.n : Int)))) + 1)))) = true then
  joinW (fun (s_34 : Int) (h : Heap) =>
  joinW (fun (s_35 : Unit) (h : Heap) =>
  joinW (fun (s_36 : Bool) (h : Heap) =>
  if s_36 = true then
  sliceK s0 (some (IntKind.i64.wrap (s_34 + 1))) none none (sizeOfT Try.prog T.uint8) (fun (v_37 : Sl) =>
  callK Try.prog (.int .i64) F.internal_bytealg_IndexRabinKarp_byte #[(.slice v_37.a v_37.n v_37.c), (.slice sep1.a sep1.n sep1.c)] (fun (v_38 : Int) (h : Heap) =>
  if (decide (v_38 < 0)) = true then
  R (.int .i64 ((-1))) h
  else
  R (.int .i64 (IntKind.i64.wrap ((IntKind.i64.wrap (s_34 + 1)) + v_38))) h) h)
  else
  X_33 (IntKind.i64.wrap (s_34 + 1), IntKind.i64.wrap (s_32.2 + 1)) h)
  (fun J_39 =>
  shiftK 4
  (if (decide ((IntKind.i64.wrap (s_32.2 + 1)) ≥ (IntKind.i64.wrap (4 + (Int.fdiv (IntKind.i64.wrap (s_34 + 1)) (2 ^ min (Int.toNat 4) (IntKind.bits .i64))))))) = true then
  J_39 (decide ((IntKind.i64.wrap (s_34 + 1)) < (IntKind.i64.wrap ((IntKind.i64.wrap (((s0.n : Int)) - ((sep1.n : Int)))) + 1)))) h
  else
  J_39 false h)))
  (fun J_40 =>
  idxK s0 (IntKind.i64.wrap (s_34 + 1)) (sizeOfT Try.prog T.uint8) (fun (a_41 : Addr) =>
  loadK (.int .u8) h ((some a_41)) (fun (v_42 : Int) =>
  if (v_42 == v_31) = true then
  sliceK s0 (some s_34) (some (IntKind.i64.wrap (s_34 + ((sep1.n : Int))))) none (sizeOfT Try.prog T.uint8) (fun (v_43 : Sl) =>
  callK Try.prog .bool F.bytes_Equal #[(.slice v_43.a v_43.n v_43.c), (.slice sep1.a sep1.n sep1.c)] (fun (v_44 : Bool) (h : Heap) =>
  if v_44 = true then
  R (.int .i64 s_34) h
  else
  J_40 () h) h)
  else
  J_40 () h))))
  (fun J_45 =>
  idxK s0 s_32.1 (sizeOfT Try.prog T.uint8) (fun (a_46 : Addr) =>
  loadK (.int .u8) h ((some a_46)) (fun (v_47 : Int) =>
  if (v_47 != v_29) = true then
  sliceK s0 (some (IntKind.i64.wrap (s_32.1 + 1))) (some (IntKind.i64.wrap ((IntKind.i64.wrap (((s0.n : Int)) - ((sep1.n : Int)))) + 1))) none (sizeOfT Try.prog T.uint8) (fun (v_48 : Sl) =>
  callK Try.prog (.int .i64) F.bytes_IndexByte #[(.slice v_48.a v_48.n v_48.c), (.int .u8 v_29)] (fun (v_49 : Int) (h : Heap) =>
  if (decide (v_49 < 0)) = true then
  R (.int .i64 ((-1))) h
  else
  J_45 (IntKind.i64.wrap (s_32.1 + (IntKind.i64.wrap (v_49 + 1)))) h) h)
  else
  J_45 s_32.1 h)))
  else
  R (.int .i64 ((-1))) h) (0, 0) h)))))
def bytes_Index.ann : Ann := (.seq .leaf (.seq .leaf (.seq (.block (.seq .leaf (.cond (.seq .leaf .leaf) (.seq .leaf (.cond (.seq .leaf .leaf) (.seq .leaf (.cond (.seq (.seq .leaf (.cond (.seq .leaf .leaf) .leaf)) (.seq .leaf .leaf)) (.seq .leaf (.cond (.seq .leaf .leaf) (.seq .leaf (.cond (.seq (.seq .leaf (.cond (.seq .leaf .leaf) .leaf)) (.seq .leaf (.seq .leaf (.seq .leaf (.seq .leaf (.seq .leaf (.seq (.block (.loop [(8, (.int .i64)), (10, (.int .i64))] (.seq (.seq .leaf (.cond .leaf .leaf)) (.block (.join [(8, (.int .i64))] (.seq .leaf (.cond (.seq .leaf (.seq (.seq .leaf (.cond (.seq .leaf .leaf) .leaf)) .leaf)) .leaf)) (.join [] (.seq .leaf (.cond (.seq .leaf .leaf) .leaf)) (.seq .leaf (.seq .leaf (.seq .leaf (.cond (.seq .leaf (.seq (.seq .leaf (.cond (.seq .leaf .leaf) .leaf)) (.seq .leaf .leaf))) .leaf)))))))))) (.seq .leaf .leaf)))))))) .leaf))))))))))) (.seq .leaf (.seq .leaf (.seq .leaf (.seq .leaf (.seq .leaf (.seq (.block (.loop [(15, (.int .i64)), (16, (.int .i64))] (.seq (.seq .leaf (.cond .leaf .leaf)) (.block (.join [(15, (.int .i64))] (.seq .leaf (.cond (.seq .leaf (.seq (.seq .leaf (.cond .leaf .leaf)) .leaf)) .leaf)) (.join [] (.seq .leaf (.cond (.seq .leaf .leaf) .leaf)) (.seq .leaf (.seq .leaf (.join [(189, .bool)] .leaf (.cond (.seq .leaf (.seq (.seq .leaf (.cond (.seq .leaf .leaf) .leaf)) (.seq .leaf .leaf))) .leaf)))))))))) (.seq .leaf .leaf))))))))))
theorem bytes_Index.eq (s0 : Sl) (sep1 : Sl) (R : Value → Heap → Prop) (h : Heap) : bytes_Index.body s0 sep1 R h = evFn Try.prog Try.f52 bytes_Index.ann [(.slice s0.a s0.n s0.c), (.slice sep1.a sep1.n sep1.c)] R h := by kernel_rfl
theorem bytes_Index.calls {s0 : Sl} {sep1 : Sl} {R : Value → Heap → Prop} {h : Heap} (H : bytes_Index.body s0 sep1 R h) : HC Try.prog F.bytes_Index #[(.slice s0.a s0.n s0.c), (.slice sep1.a sep1.n sep1.c)] R h :=
  evFn_sound mixed Try.func52 (by kernel_rfl) (bytes_Index.eq s0 sep1 R h ▸ H)

/-! bytes.Contains -/
def bytes_Contains.body (b0 : Sl) (subslice1 : Sl) (R : Value → Heap → Prop) (h : Heap) : Prop :=
  callK Try.prog (.int .i64) F.bytes_Index #[(.slice b0.a b0.n b0.c), (.slice subslice1.a subslice1.n subslice1.c)] (fun (v_1 : Int) (h : Heap) =>
  R (.bool (v_1 != ((-1)))) h) h
def bytes_Contains.ann : Ann := (.seq .leaf (.seq .leaf .leaf))
theorem bytes_Contains.eq (b0 : Sl) (subslice1 : Sl) (R : Value → Heap → Prop) (h : Heap) : bytes_Contains.body b0 subslice1 R h = evFn Try.prog Try.f38 bytes_Contains.ann [(.slice b0.a b0.n b0.c), (.slice subslice1.a subslice1.n subslice1.c)] R h := by kernel_rfl
theorem bytes_Contains.calls {b0 : Sl} {subslice1 : Sl} {R : Value → Heap → Prop} {h : Heap} (H : bytes_Contains.body b0 subslice1 R h) : HC Try.prog F.bytes_Contains #[(.slice b0.a b0.n b0.c), (.slice subslice1.a subslice1.n subslice1.c)] R h :=
  evFn_sound mixed Try.func38 (by kernel_rfl) (bytes_Contains.eq b0 subslice1 R h ▸ H)

/-! zugzwang/tags.Mark -/
def tags_Mark.body (b0 : Sl) (R : Value → Heap → Prop) (h : Heap) : Prop :=
  newSlK h 8 #[(.int .u8 122), (.int .u8 117), (.int .u8 103), (.int .u8 122), (.int .u8 119), (.int .u8 97), (.int .u8 110), (.int .u8 103)] T.uint8 (fun (v_1 : Sl) (h : Heap) =>
  opK Try.prog .slice (convert T.sl_uint8 T.sl_uint8 (.slice v_1.a v_1.n v_1.c)) (fun (v_2 : Sl) (h : Heap) =>
  callK Try.prog .bool F.bytes_Contains #[(.slice b0.a b0.n b0.c), (.slice v_2.a v_2.n v_2.c)] (fun (v_3 : Bool) (h : Heap) =>
  R (.bool v_3) h) h) h)
def tags_Mark.ann : Ann := (.seq .leaf (.seq .leaf .leaf))
theorem tags_Mark.eq (b0 : Sl) (R : Value → Heap → Prop) (h : Heap) : tags_Mark.body b0 R h = evFn Try.prog Try.f22 tags_Mark.ann [(.slice b0.a b0.n b0.c)] R h := by kernel_rfl
theorem tags_Mark.calls {b0 : Sl} {R : Value → Heap → Prop} {h : Heap} (H : tags_Mark.body b0 R h) : HC Try.prog F.tags_Mark #[(.slice b0.a b0.n b0.c)] R h :=
  evFn_sound mixed Try.func22 (by kernel_rfl) (tags_Mark.eq b0 R h ▸ H)

/-! zugzwang/zugzwangkit.SameBytes -/
def kit_SameBytes.body (a0 : Sl) (b1 : Sl) (R : Value → Heap → Prop) (h : Heap) : Prop :=
  if (((a0.n : Int)) != ((b1.n : Int))) = true then
  R (.bool false) h
  else
  loopW (fun X_2 (s_1 : Int) (h : Heap) =>
  if (decide (s_1 < ((a0.n : Int)))) = true then
  idxK a0 s_1 (sizeOfT Try.prog T.uint8) (fun (a_3 : Addr) =>
  loadK (.int .u8) h ((some a_3)) (fun (v_4 : Int) =>
  idxK b1 s_1 (sizeOfT Try.prog T.uint8) (fun (a_5 : Addr) =>
  loadK (.int .u8) h ((some a_5)) (fun (v_6 : Int) =>
  if (v_4 != v_6) = true then
  R (.bool false) h
  else
  X_2 (IntKind.i64.wrap (s_1 + 1)) h))))
  else
  R (.bool true) h) 0 h
def kit_SameBytes.ann : Ann := (.seq .leaf (.seq (.seq .leaf (.cond (.seq .leaf .leaf) .leaf)) (.seq (.seq .leaf (.block (.loop [(5, (.int .i64))] (.seq (.seq .leaf (.cond .leaf .leaf)) (.seq (.block (.seq .leaf (.cond (.seq .leaf .leaf) .leaf))) .leaf))))) (.seq .leaf .leaf))))
theorem kit_SameBytes.eq (a0 : Sl) (b1 : Sl) (R : Value → Heap → Prop) (h : Heap) : kit_SameBytes.body a0 b1 R h = evFn Try.prog Try.f40 kit_SameBytes.ann [(.slice a0.a a0.n a0.c), (.slice b1.a b1.n b1.c)] R h := by kernel_rfl
theorem kit_SameBytes.calls {a0 : Sl} {b1 : Sl} {R : Value → Heap → Prop} {h : Heap} (H : kit_SameBytes.body a0 b1 R h) : HC Try.prog F.kit_SameBytes #[(.slice a0.a a0.n a0.c), (.slice b1.a b1.n b1.c)] R h :=
  evFn_sound mixed Try.func40 (by kernel_rfl) (kit_SameBytes.eq a0 b1 R h ▸ H)

/-! zugzwang/zugzwanglaw04.alike -/
def law04_alike.body (a0 : Array Value) (b1 : Array Value) (R : Value → Heap → Prop) (h : Heap) : Prop :=
  newK h a0 T.zugzwanglaw04_Ask (fun (a_1 : Option Addr) (h : Heap) =>
  newK h b1 T.zugzwanglaw04_Ask (fun (b_2 : Option Addr) (h : Heap) =>
  fldK a_1 0 (fun (a_3 : Addr) =>
  loadK (.int .i64) h ((some a_3)) (fun (v_4 : Int) =>
  callK Try.prog (.int .i64) F.kit_Pick #[(.int .i64 v_4), (.int .i64 3)] (fun (v_5 : Int) (h : Heap) =>
  fldK b_2 0 (fun (a_6 : Addr) =>
  loadK (.int .i64) h ((some a_6)) (fun (v_7 : Int) =>
  callK Try.prog (.int .i64) F.kit_Pick #[(.int .i64 v_7), (.int .i64 3)] (fun (v_8 : Int) (h : Heap) =>
  if (v_5 != v_8) = true then
  R (.bool false) h
  else
  if (v_5 == 2) = true then
  fldK a_1 3 (fun (a_9 : Addr) =>
  loadK (.int .i64) h ((some a_9)) (fun (v_10 : Int) =>
  fldK b_2 3 (fun (a_11 : Addr) =>
  loadK (.int .i64) h ((some a_11)) (fun (v_12 : Int) =>
  R (.bool (v_10 == v_12)) h))))
  else
  fldK a_1 2 (fun (a_13 : Addr) =>
  fldK b_2 2 (fun (a_14 : Addr) =>
  loadK .slice h ((some a_13)) (fun (v_15 : Sl) =>
  loadK .slice h ((some a_14)) (fun (v_16 : Sl) =>
  callK Try.prog .slice F.ref02_Join #[(.slice v_15.a v_15.n v_15.c)] (fun (v_17 : Sl) (h : Heap) =>
  stillK .slice h ((some a_14)) v_16 ∧
  callK Try.prog .slice F.ref02_Join #[(.slice v_16.a v_16.n v_16.c)] (fun (v_18 : Sl) (h : Heap) =>
  callK Try.prog .bool F.kit_SameBytes #[(.slice v_17.a v_17.n v_17.c), (.slice v_18.a v_18.n v_18.c)] (fun (v_19 : Bool) (h : Heap) =>
  if v_19 = true then
  if (v_5 == 0) = true then
  R (.bool true) h
  else
  fldK a_1 1 (fun (a_20 : Addr) =>
  fldK b_2 1 (fun (a_21 : Addr) =>
  loadK .slice h ((some a_20)) (fun (v_22 : Sl) =>
  loadK .slice h ((some a_21)) (fun (v_23 : Sl) =>
  callK Try.prog .bool F.kit_SameBytes #[(.slice v_22.a v_22.n v_22.c), (.slice v_23.a v_23.n v_23.c)] (fun (v_24 : Bool) (h : Heap) =>
  R (.bool v_24) h) h))))
  else
  R (.bool false) h) h) h) h))))) h))) h))))
def law04_alike.ann : Ann := (.seq .leaf (.seq .leaf (.seq (.seq .leaf (.cond (.seq .leaf .leaf) .leaf)) (.seq (.seq .leaf (.cond (.seq .leaf .leaf) .leaf)) (.seq (.any (.loc 0 (.loc 3 (.st 1 524260 (.st 4 524256 (.last 2 (.last 5 (.last 6 (.loc 7 (.locA 8 (.loc 9 (.loc 10 (.locA 11 (.loc 12 (.loc 13 (.loc 14 (.loc 15 (.loc 16 (.loc 17 (.loc 18 .done))))))) (.loc 13 (.st 12 491520 (.st 14 491520 (.last 15 (.loc 16 (.loc 17 (.loc 18 .done)))))))))) (.loc 9 (.loc 10 (.loc 11 (.loc 12 (.loc 13 (.loc 14 (.loc 15 (.loc 16 (.loc 17 (.loc 18 .done)))))))))))))))))))) .leaf)))))
theorem law04_alike.eq (a0 : Array Value) (b1 : Array Value) (R : Value → Heap → Prop) (h : Heap) : law04_alike.body a0 b1 R h = evFn Try.prog Try.f26 law04_alike.ann [(.agg a0), (.agg b1)] R h := by kernel_rfl
theorem law04_alike.calls {a0 : Array Value} {b1 : Array Value} {R : Value → Heap → Prop} {h : Heap} (H : law04_alike.body a0 b1 R h) : HC Try.prog F.law04_alike #[(.agg a0), (.agg b1)] R h :=
  evFn_sound mixed Try.func26 (by kernel_rfl) (law04_alike.eq a0 b1 R h ▸ H)

/-! zugzwang/zugzwanglaw04.TagsFresh -/
def law04_TagsFresh.body (l0 : Sl) (seed1 : Sl) (more2 : Array Value) (R : Value → Heap → Prop) (h : Heap) : Prop :=
  newK h more2 T.zugzwanglaw04_Ask (fun (more_1 : Option Addr) (h : Heap) =>
  callK Try.prog .bool F.law04_awake #[] (fun (v_2 : Bool) (h : Heap) =>
  if (!v_2) = true then
  R (.bool false) h
  else
  joinW (fun (s_3 : Unit) (h : Heap) =>
  callK Try.prog .ptr F.tags_New #[(.bool false), (.slice none 0 0)] (fun (v_4 : Option Addr) (h : Heap) =>
  callK Try.prog .ptr F.tags_New #[(.bool false), (.slice seed1.a seed1.n seed1.c)] (fun (v_5 : Option Addr) (h : Heap) =>
  loopW (fun X_7 (s_6 : Sl × Int × Int) (h : Heap) =>
  if (decide (s_6.2.2 < ((l0.n : Int)))) = true then
  idxK l0 s_6.2.2 (sizeOfT Try.prog T.zugzwanglaw04_Ask) (fun (a_8 : Addr) =>
  loadAggK (sizeOfT Try.prog T.zugzwanglaw04_Ask) h ((some a_8)) (fun (v_9 : Array Value) =>
  callK Try.prog .agg F.law04_told #[(.pointer v_4), (.agg v_9)] (fun (v_10 : Array Value) (h : Heap) =>
  newK h (zerosOf Try.prog T.api_Tag) T.api_Tag (fun (t_11 : Option Addr) (h : Heap) =>
  storeAggK (sizeOfT Try.prog T.api_Tag) h t_11 v_10 (fun (h : Heap) =>
  loopW (fun X_13 (s_12 : Bool × Int) (h : Heap) =>
  if (decide (s_12.2 < s_6.2.2)) = true then
  idxK s_6.1 s_12.2 (sizeOfT Try.prog T.api_Tag) (fun (a_14 : Addr) =>
  idxK l0 s_12.2 (sizeOfT Try.prog T.zugzwanglaw04_Ask) (fun (a_15 : Addr) =>
  idxK l0 s_6.2.2 (sizeOfT Try.prog T.zugzwanglaw04_Ask) (fun (a_16 : Addr) =>
  loadAggK (sizeOfT Try.prog T.api_Tag) h ((some a_14)) (fun (v_17 : Array Value) =>
  loadAggK (sizeOfT Try.prog T.api_Tag) h t_11 (fun (v_18 : Array Value) =>
  eqK Try.prog (binSem .eql T.api_Tag (.tmp 53) (.tmp 54) (.agg v_17) (.agg v_18)) (fun (v_19 : Bool) =>
  loadAggK (sizeOfT Try.prog T.zugzwanglaw04_Ask) h ((some a_15)) (fun (v_20 : Array Value) =>
  loadAggK (sizeOfT Try.prog T.zugzwanglaw04_Ask) h ((some a_16)) (fun (v_21 : Array Value) =>
  callK Try.prog .bool F.law04_alike #[(.agg v_20), (.agg v_21)] (fun (v_22 : Bool) (h : Heap) =>
  stillAggK (sizeOfT Try.prog T.api_Tag) h t_11 v_18 ∧
  stillAggK (sizeOfT Try.prog T.api_Tag) h ((some a_14)) v_17 ∧
  if (!(v_19 == v_22)) = true then
  R (.bool false) h
  else
  if s_12.1 = true then
  idxK l0 s_12.2 (sizeOfT Try.prog T.zugzwanglaw04_Ask) (fun (a_23 : Addr) =>
  idxK l0 s_6.2.2 (sizeOfT Try.prog T.zugzwanglaw04_Ask) (fun (a_24 : Addr) =>
  loadAggK (sizeOfT Try.prog T.zugzwanglaw04_Ask) h ((some a_23)) (fun (v_25 : Array Value) =>
  loadAggK (sizeOfT Try.prog T.zugzwanglaw04_Ask) h ((some a_24)) (fun (v_26 : Array Value) =>
  callK Try.prog .bool F.law04_alike #[(.agg v_25), (.agg v_26)] (fun (v_27 : Bool) (h : Heap) =>
  X_13 (!v_27, IntKind.i64.wrap (s_12.2 + 1)) h) h))))
  else
  X_13 (false, IntKind.i64.wrap (s_12.2 + 1)) h) h))))))))
  else
  joinW (fun (s_28 : Int) (h : Heap) =>
  idxK l0 s_6.2.2 (sizeOfT Try.prog T.zugzwanglaw04_Ask) (fun (a_29 : Addr) =>
  loadAggK (sizeOfT Try.prog T.zugzwanglaw04_Ask) h ((some a_29)) (fun (v_30 : Array Value) =>
  loadAggK (sizeOfT Try.prog T.api_Tag) h t_11 (fun (v_31 : Array Value) =>
  callK Try.prog .agg F.law04_told #[(.pointer v_5), (.agg v_30)] (fun (v_32 : Array Value) (h : Heap) =>
  stillAggK (sizeOfT Try.prog T.api_Tag) h t_11 v_31 ∧
  eqK Try.prog (binSem .neq T.api_Tag (.tmp 87) (.tmp 88) (.agg v_32) (.agg v_31)) (fun (v_33 : Bool) =>
  if v_33 = true then
  R (.bool false) h
  else
  loadAggK (sizeOfT Try.prog T.api_Tag) h t_11 (fun (v_34 : Array Value) =>
  callK Try.prog .bool F.tags_Maker_Told #[(.pointer v_4), (.agg v_34)] (fun (v_35 : Bool) (h : Heap) =>
  if (!v_35) = true then
  R (.bool false) h
  else
  sliceArrK t_11 32 none none none (sizeOfT Try.prog T.uint8) (fun (v_36 : Sl) =>
  callK Try.prog .bool F.tags_Mark #[(.slice v_36.a v_36.n v_36.c)] (fun (v_37 : Bool) (h : Heap) =>
  if (!v_37) = true then
  R (.bool false) h
  else
  callK Try.prog (.int .i64) F.tags_Maker_Len #[(.pointer v_4)] (fun (v_38 : Int) (h : Heap) =>
  if (v_38 != s_28) = true then
  R (.bool false) h
  else
  loadAggK (sizeOfT Try.prog T.api_Tag) h t_11 (fun (v_39 : Array Value) =>
  opK Try.prog .slice (Instr.buildSlice T.sl_api_Tag 1 #[(0, (.agg v_39))]) (fun (v_40 : Sl) (h : Heap) =>
  opK Try.prog .slice (Builtin.append_ #[T.sl_api_Tag, T.sl_api_Tag] T.sl_api_Tag #[(.slice s_6.1.a s_6.1.n s_6.1.c), (.slice v_40.a v_40.n v_40.c)]) (fun (v_41 : Sl) (h : Heap) =>
  X_7 (v_41, s_28, IntKind.i64.wrap (s_6.2.2 + 1)) h) h) h)) h) h)) h))) h))))
  (fun J_42 =>
  if s_12.1 = true then
  J_42 (IntKind.i64.wrap (s_6.2.1 + 1)) h
  else
  J_42 s_6.2.1 h)) (true, 0) h))) h))
  else
  callK Try.prog .ptr F.tags_Maker_Copy #[(.pointer v_4)] (fun (v_43 : Option Addr) (h : Heap) =>
  loadAggK (sizeOfT Try.prog T.zugzwanglaw04_Ask) h more_1 (fun (v_44 : Array Value) =>
  callK Try.prog .agg F.law04_told #[(.pointer v_43), (.agg v_44)] (fun (v_45 : Array Value) (h : Heap) =>
  newK h (zerosOf Try.prog T.api_Tag) T.api_Tag (fun (a_46 : Option Addr) (h : Heap) =>
  storeAggK (sizeOfT Try.prog T.api_Tag) h a_46 v_45 (fun (h : Heap) =>
  callK Try.prog (.int .i64) F.tags_Maker_Len #[(.pointer v_4)] (fun (v_47 : Int) (h : Heap) =>
  if (v_47 != s_6.2.1) = true then
  R (.bool false) h
  else
  loadAggK (sizeOfT Try.prog T.api_Tag) h a_46 (fun (v_48 : Array Value) =>
  callK Try.prog .bool F.tags_Maker_Told #[(.pointer v_4), (.agg v_48)] (fun (v_49 : Bool) (h : Heap) =>
  callK Try.prog (.int .i64) F.tags_Maker_Len #[(.pointer v_43)] (fun (v_50 : Int) (h : Heap) =>
  if (!(v_49 == (v_50 == s_6.2.1))) = true then
  R (.bool false) h
  else
  loadAggK (sizeOfT Try.prog T.zugzwanglaw04_Ask) h more_1 (fun (v_51 : Array Value) =>
  loadAggK (sizeOfT Try.prog T.api_Tag) h a_46 (fun (v_52 : Array Value) =>
  callK Try.prog .agg F.law04_told #[(.pointer v_5), (.agg v_51)] (fun (v_53 : Array Value) (h : Heap) =>
  stillAggK (sizeOfT Try.prog T.api_Tag) h a_46 v_52 ∧
  eqK Try.prog (binSem .neq T.api_Tag (.tmp 133) (.tmp 134) (.agg v_53) (.agg v_52)) (fun (v_54 : Bool) =>
  if v_54 = true then
  R (.bool false) h
  else
  loopW (fun X_56 (s_55 : Int) (h : Heap) =>
  if (decide (s_55 < ((l0.n : Int)))) = true then
  idxK l0 s_55 (sizeOfT Try.prog T.zugzwanglaw04_Ask) (fun (a_57 : Addr) =>
  idxK s_6.1 s_55 (sizeOfT Try.prog T.api_Tag) (fun (a_58 : Addr) =>
  loadAggK (sizeOfT Try.prog T.zugzwanglaw04_Ask) h ((some a_57)) (fun (v_59 : Array Value) =>
  loadAggK (sizeOfT Try.prog T.api_Tag) h ((some a_58)) (fun (v_60 : Array Value) =>
  callK Try.prog .agg F.law04_told #[(.pointer v_43), (.agg v_59)] (fun (v_61 : Array Value) (h : Heap) =>
  stillAggK (sizeOfT Try.prog T.api_Tag) h ((some a_58)) v_60 ∧
  eqK Try.prog (binSem .neq T.api_Tag (.tmp 148) (.tmp 152) (.agg v_61) (.agg v_60)) (fun (v_62 : Bool) =>
  if v_62 = true then
  R (.bool false) h
  else
  idxK l0 s_55 (sizeOfT Try.prog T.zugzwanglaw04_Ask) (fun (a_63 : Addr) =>
  idxK s_6.1 s_55 (sizeOfT Try.prog T.api_Tag) (fun (a_64 : Addr) =>
  loadAggK (sizeOfT Try.prog T.zugzwanglaw04_Ask) h ((some a_63)) (fun (v_65 : Array Value) =>
  loadAggK (sizeOfT Try.prog T.api_Tag) h ((some a_64)) (fun (v_66 : Array Value) =>
  callK Try.prog .agg F.law04_told #[(.pointer v_4), (.agg v_65)] (fun (v_67 : Array Value) (h : Heap) =>
  stillAggK (sizeOfT Try.prog T.api_Tag) h ((some a_64)) v_66 ∧
  eqK Try.prog (binSem .neq T.api_Tag (.tmp 160) (.tmp 164) (.agg v_67) (.agg v_66)) (fun (v_68 : Bool) =>
  if v_68 = true then
  R (.bool false) h
  else
  X_56 (IntKind.i64.wrap (s_55 + 1)) h)) h)))))) h))))
  else
  loadAggK (sizeOfT Try.prog T.zugzwanglaw04_Ask) h more_1 (fun (v_69 : Array Value) =>
  loadAggK (sizeOfT Try.prog T.api_Tag) h a_46 (fun (v_70 : Array Value) =>
  callK Try.prog .agg F.law04_told #[(.pointer v_4), (.agg v_69)] (fun (v_71 : Array Value) (h : Heap) =>
  stillAggK (sizeOfT Try.prog T.api_Tag) h a_46 v_70 ∧
  eqK Try.prog (binSem .eql T.api_Tag (.tmp 169) (.tmp 170) (.agg v_71) (.agg v_70)) (fun (v_72 : Bool) =>
  R (.bool v_72) h)) h))) 0 h)) h))) h) h)) h))) h)) h) (⟨none, 0, 0⟩, 0, 0) h) h) h)
  (fun J_73 =>
  loadAggK (sizeOfT Try.prog T.zugzwanglaw04_Ask) h more_1 (fun (v_74 : Array Value) =>
  ((callK Try.prog (.int .i64) F.law04_size #[(.slice l0.a l0.n l0.c)] (fun (v_75 : Int) (h : Heap) =>
  stillAggK (sizeOfT Try.prog T.zugzwanglaw04_Ask) h more_1 v_74 ∧
  opK Try.prog .slice (Instr.buildSlice T.sl_zugzwanglaw04_Ask 1 #[(0, (.agg v_74))]) (fun (v_76 : Sl) (h : Heap) =>
  callK Try.prog (.int .i64) F.law04_size #[(.slice v_76.a v_76.n v_76.c)] (fun (v_77 : Int) (h : Heap) =>
  if (decide ((IntKind.i64.wrap ((IntKind.i64.wrap (v_75 + ((seed1.n : Int)))) + v_77)) > 400)) = true then
  R (.bool true) h
  else
  J_73 () h) h) h) h) ∧
  (opK Try.prog .slice (Instr.buildSlice T.sl_zugzwanglaw04_Ask 1 #[(0, (.agg v_74))]) (fun (v_78 : Sl) (h : Heap) =>
  callK Try.prog (.int .i64) F.law04_size #[(.slice l0.a l0.n l0.c)] (fun (v_79 : Int) (h : Heap) =>
  callK Try.prog (.int .i64) F.law04_size #[(.slice v_78.a v_78.n v_78.c)] (fun (v_80 : Int) (h : Heap) =>
  if (decide ((IntKind.i64.wrap ((IntKind.i64.wrap (v_79 + ((seed1.n : Int)))) + v_80)) > 400)) = true then
  R (.bool true) h
  else
  J_73 () h) h) h) h))))) h)
def law04_TagsFresh.ann : Ann := (.seq .leaf (.seq (.seq .leaf (.cond (.seq .leaf .leaf) .leaf)) (.join [] (.seq (.any (.loc 0 (.loc 2 (.loc 3 (.st 5 960 (.alt 1 (.loc 4 (.last 6 (.last 7 (.loc 8 (.loc 9 .done))))) (.last 6 (.last 1 (.loc 4 (.last 7 (.loc 8 (.loc 9 .done)))))))))))) (.cond (.seq .leaf .leaf) .leaf)) (.seq .leaf (.seq .leaf (.seq .leaf (.seq (.seq .leaf (.block (.loop [(9, .slice), (10, (.int .i64)), (11, (.int .i64))] (.seq (.seq .leaf (.cond .leaf .leaf)) (.seq (.block (.seq .leaf (.seq .leaf (.seq (.seq .leaf (.block (.loop [(13, .bool), (14, (.int .i64))] (.seq (.seq .leaf (.cond .leaf .leaf)) (.seq (.block (.seq (.seq (.any (.loc 0 (.loc 1 (.loc 2 (.loc 6 (.loc 7 (.loc 8 (.loc 10 (.loc 11 (.loc 12 (.st 3 32800 (.st 4 32800 (.loc 5 (.st 9 49152 (.st 13 49152 (.last 14 (.loc 15 .done))))))))))))))))) (.cond (.seq .leaf .leaf) .leaf)) (.any (.loc 0 (.loc 1 (.locA 2 (.loc 3 (.loc 4 (.loc 6 (.loc 7 (.loc 8 (.st 5 15360 (.st 9 15360 (.last 10 (.loc 11 (.loc 12 (.loc 13 .done))))))))))) (.loc 3 (.loc 4 (.loc 5 (.loc 6 (.loc 7 (.loc 8 (.loc 9 (.loc 10 (.loc 11 (.loc 12 (.loc 13 .done))))))))))))))))) .leaf))))) (.join [(10, (.int .i64))] (.seq .leaf (.cond .leaf .leaf)) (.seq (.seq (.any (.loc 0 (.loc 1 (.loc 2 (.loc 3 (.st 4 33554336 (.st 6 33554304 (.last 5 (.loc 7 (.loc 8 (.locA 9 (.loc 10 (.loc 11 (.loc 12 (.loc 13 (.loc 14 (.loc 15 (.loc 16 (.loc 17 (.loc 18 (.loc 19 (.loc 20 (.loc 21 (.loc 22 (.loc 23 (.loc 24 .done))))))))))))))) (.st 10 33552384 (.last 11 (.loc 12 (.loc 13 (.loc 14 (.locA 15 (.loc 16 (.loc 17 (.loc 18 (.loc 19 (.loc 20 (.loc 21 (.loc 22 (.loc 23 (.loc 24 .done))))))))) (.last 16 (.loc 17 (.loc 18 (.loc 19 (.locA 20 (.loc 21 (.loc 22 (.loc 23 (.loc 24 .done)))) (.loc 22 (.last 21 (.loc 23 (.loc 24 .done)))))))))))))))))))))))))) (.cond (.seq .leaf .leaf) .leaf)) .leaf)))))) .leaf))))) (.seq .leaf (.seq .leaf (.seq (.seq (.any (.loc 0 (.loc 2 (.last 1 (.loc 3 (.loc 4 (.locA 5 (.loc 6 (.loc 7 (.loc 8 (.loc 9 (.loc 10 (.loc 11 (.loc 12 (.loc 13 (.loc 14 (.loc 15 (.loc 16 (.loc 17 (.loc 18 (.loc 19 (.loc 20 .done))))))))))))))) (.loc 8 (.loc 10 (.st 6 2095744 (.last 7 (.last 9 (.loc 11 (.loc 12 (.loc 13 (.loc 14 (.locA 15 (.loc 16 (.loc 17 (.loc 18 (.loc 19 (.loc 20 .done))))) (.st 16 1703936 (.st 18 1572864 (.last 17 (.loc 19 (.loc 20 .done)))))))))))))))))))))) (.cond (.seq .leaf .leaf) .leaf)) (.seq (.seq .leaf (.block (.loop [(17, (.int .i64))] (.seq (.seq .leaf (.cond .leaf .leaf)) (.seq (.block (.seq (.any (.loc 0 (.loc 1 (.loc 2 (.loc 3 (.loc 6 (.loc 7 (.loc 8 (.st 4 16776224 (.st 9 16776192 (.last 5 (.loc 10 (.loc 11 (.locA 12 (.loc 13 (.loc 14 (.loc 15 (.loc 16 (.loc 17 (.loc 18 (.loc 19 (.loc 20 (.loc 21 (.loc 22 (.loc 23 .done))))))))))) (.loc 13 (.loc 14 (.loc 15 (.loc 18 (.loc 19 (.loc 20 (.st 16 12713984 (.st 21 12582912 (.last 17 (.loc 22 (.loc 23 .done))))))))))))))))))))))))) (.cond (.seq .leaf .leaf) .leaf))) .leaf))))) (.seq (.any (.loc 0 (.st 1 52 (.st 3 48 (.last 2 (.loc 4 (.loc 5 .done))))))) .leaf))))))))))))
theorem law04_TagsFresh.eq (l0 : Sl) (seed1 : Sl) (more2 : Array Value) (R : Value → Heap → Prop) (h : Heap) : law04_TagsFresh.body l0 seed1 more2 R h = evFn Try.prog Try.f6 law04_TagsFresh.ann [(.slice l0.a l0.n l0.c), (.slice seed1.a seed1.n seed1.c), (.agg more2)] R h := by kernel_rfl
theorem law04_TagsFresh.calls {l0 : Sl} {seed1 : Sl} {more2 : Array Value} {R : Value → Heap → Prop} {h : Heap} (H : law04_TagsFresh.body l0 seed1 more2 R h) : HC Try.prog F.law04_TagsFresh #[(.slice l0.a l0.n l0.c), (.slice seed1.a seed1.n seed1.c), (.agg more2)] R h :=
  evFn_sound mixed Try.func6 (by kernel_rfl) (law04_TagsFresh.eq l0 seed1 more2 R h ▸ H)

/-! zugzwang/zugzwangkit.mark -/
def kit_mark.body (k0 : Int) (i1 : Int) (R : Value → Heap → Prop) (h : Heap) : Prop :=
  R (.int .i64 (IntKind.i64.wrap ((IntKind.i64.wrap (1000003 * (IntKind.i64.wrap (k0 + 7)))) + i1))) h
def kit_mark.ann : Ann := (.seq .leaf (.seq .leaf .leaf))
theorem kit_mark.eq (k0 : Int) (i1 : Int) (R : Value → Heap → Prop) (h : Heap) : kit_mark.body k0 i1 R h = evFn Try.prog Try.f48 kit_mark.ann [(.int .i64 k0), (.int .i64 i1)] R h := by kernel_rfl
theorem kit_mark.calls {k0 : Int} {i1 : Int} {R : Value → Heap → Prop} {h : Heap} (H : kit_mark.body k0 i1 R h) : HC Try.prog F.kit_mark #[(.int .i64 k0), (.int .i64 i1)] R h :=
  evFn_sound mixed Try.func48 (by kernel_rfl) (kit_mark.eq k0 i1 R h ▸ H)

/-! zugzwang/zugzwangkit.markByte -/
def kit_markByte.body (k0 : Int) (i1 : Int) (R : Value → Heap → Prop) (h : Heap) : Prop :=
  callK Try.prog (.int .i64) F.kit_mark #[(.int .i64 k0), (.int .i64 i1)] (fun (v_1 : Int) (h : Heap) =>
  shiftK 56
  (R (.int .u8 (IntKind.u8.wrap (Int.fdiv (IntKind.u64.wrap ((IntKind.u64.wrap v_1) * 11400714819323198485)) (2 ^ min (Int.toNat 56) (IntKind.bits .u64))))) h)) h
def kit_markByte.ann : Ann := (.seq .leaf (.seq .leaf .leaf))
theorem kit_markByte.eq (k0 : Int) (i1 : Int) (R : Value → Heap → Prop) (h : Heap) : kit_markByte.body k0 i1 R h = evFn Try.prog Try.f34 kit_markByte.ann [(.int .i64 k0), (.int .i64 i1)] R h := by kernel_rfl
theorem kit_markByte.calls {k0 : Int} {i1 : Int} {R : Value → Heap → Prop} {h : Heap} (H : kit_markByte.body k0 i1 R h) : HC Try.prog F.kit_markByte #[(.int .i64 k0), (.int .i64 i1)] R h :=
  evFn_sound mixed Try.func34 (by kernel_rfl) (kit_markByte.eq k0 i1 R h ▸ H)

/-! zugzwang/zugzwangkit.LentBytes -/
def kit_LentBytes.body (l0 : Sl) (R : Value → Heap → Prop) (h : Heap) : Prop :=
  opK Try.prog .slice (Instr.makeSlice T.sl_uint8 (.int .i64 0) (.int .i64 (IntKind.i64.wrap (((l0.n : Int)) + 12)))) (fun (v_1 : Sl) (h : Heap) =>
  opK Try.prog .slice (Builtin.append_ #[T.sl_uint8, T.sl_uint8] T.sl_uint8 #[(.slice v_1.a v_1.n v_1.c), (.slice l0.a l0.n l0.c)]) (fun (v_2 : Sl) (h : Heap) =>
  loopW (fun X_4 (s_3 : Sl × Int) (h : Heap) =>
  if (decide (s_3.2 < 12)) = true then
  callK Try.prog (.int .u8) F.kit_markByte #[(.int .i64 1), (.int .i64 s_3.2)] (fun (v_5 : Int) (h : Heap) =>
  newSlK h 1 #[(.int .u8 v_5)] T.uint8 (fun (v_6 : Sl) (h : Heap) =>
  opK Try.prog .slice (Builtin.append_ #[T.sl_uint8, T.sl_uint8] T.sl_uint8 #[(.slice s_3.1.a s_3.1.n s_3.1.c), (.slice v_6.a v_6.n v_6.c)]) (fun (v_7 : Sl) (h : Heap) =>
  X_4 (v_7, IntKind.i64.wrap (s_3.2 + 1)) h) h)) h
  else
  sliceK s_3.1 none (some ((l0.n : Int))) none (sizeOfT Try.prog T.uint8) (fun (v_8 : Sl) =>
  R (.slice v_8.a v_8.n v_8.c) h)) (v_2, 0) h) h) h
def kit_LentBytes.ann : Ann := (.seq .leaf (.seq .leaf (.seq .leaf (.seq (.seq .leaf (.block (.loop [(3, .slice), (4, (.int .i64))] (.seq (.seq .leaf (.cond .leaf .leaf)) (.seq (.block .leaf) .leaf))))) (.seq .leaf .leaf)))))
theorem kit_LentBytes.eq (l0 : Sl) (R : Value → Heap → Prop) (h : Heap) : kit_LentBytes.body l0 R h = evFn Try.prog Try.f17 kit_LentBytes.ann [(.slice l0.a l0.n l0.c)] R h := by kernel_rfl
theorem kit_LentBytes.calls {l0 : Sl} {R : Value → Heap → Prop} {h : Heap} (H : kit_LentBytes.body l0 R h) : HC Try.prog F.kit_LentBytes #[(.slice l0.a l0.n l0.c)] R h :=
  evFn_sound mixed Try.func17 (by kernel_rfl) (kit_LentBytes.eq l0 R h ▸ H)

/-! zugzwang/zugzwangkit.OverBytes -/
def kit_OverBytes.body (out0 : Sl) (R : Value → Heap → Prop) (h : Heap) : Prop :=
  sliceK out0 none (some (if (IntKind.i64.wrap (((out0.n : Int)) + 12)) < ((out0.c : Int)) then (IntKind.i64.wrap (((out0.n : Int)) + 12)) else ((out0.c : Int)))) none (sizeOfT Try.prog T.uint8) (fun (v_1 : Sl) =>
  loopW (fun X_3 (s_2 : Int) (h : Heap) =>
  if (decide (s_2 < ((v_1.n : Int)))) = true then
  callK Try.prog (.int .u8) F.kit_markByte #[(.int .i64 2), (.int .i64 s_2)] (fun (v_4 : Int) (h : Heap) =>
  idxK v_1 s_2 (sizeOfT Try.prog T.uint8) (fun (a_5 : Addr) =>
  storeK h ((some a_5)) (.int .u8 v_4) (fun (h : Heap) =>
  X_3 (IntKind.i64.wrap (s_2 + 1)) h))) h
  else
  R (.tuple #[]) h) 0 h)
def kit_OverBytes.ann : Ann := (.seq .leaf (.seq .leaf (.block (.loop [(3, (.int .i64))] (.seq (.seq .leaf (.cond .leaf .leaf)) (.seq (.block .leaf) .leaf))))))
theorem kit_OverBytes.eq (out0 : Sl) (R : Value → Heap → Prop) (h : Heap) : kit_OverBytes.body out0 R h = evFn Try.prog Try.f18 kit_OverBytes.ann [(.slice out0.a out0.n out0.c)] R h := by kernel_rfl
theorem kit_OverBytes.calls {out0 : Sl} {R : Value → Heap → Prop} {h : Heap} (H : kit_OverBytes.body out0 R h) : HC Try.prog F.kit_OverBytes #[(.slice out0.a out0.n out0.c)] R h :=
  evFn_sound mixed Try.func18 (by kernel_rfl) (kit_OverBytes.eq out0 R h ▸ H)

/-! zugzwang/zugzwangref02.filled -/
def ref02_filled.body (b0 : Sl) (R : Value → Heap → Prop) (h : Heap) : Prop :=
  newSlK h 0 #[] T.uint8 (fun (v_1 : Sl) (h : Heap) =>
  opK Try.prog .slice (Builtin.append_ #[T.sl_uint8, T.sl_uint8] T.sl_uint8 #[(.slice v_1.a v_1.n v_1.c), (.slice b0.a b0.n b0.c)]) (fun (v_2 : Sl) (h : Heap) =>
  newSlK h 1 #[(.int .u8 128)] T.uint8 (fun (v_3 : Sl) (h : Heap) =>
  opK Try.prog .slice (Builtin.append_ #[T.sl_uint8, T.sl_uint8] T.sl_uint8 #[(.slice v_2.a v_2.n v_2.c), (.slice v_3.a v_3.n v_3.c)]) (fun (v_4 : Sl) (h : Heap) =>
  loopW (fun X_6 (s_5 : Sl) (h : Heap) =>
  divK 64
  (if ((Int.tmod ((s_5.n : Int)) 64) != 56) = true then
  newSlK h 1 #[(.int .u8 0)] T.uint8 (fun (v_7 : Sl) (h : Heap) =>
  opK Try.prog .slice (Builtin.append_ #[T.sl_uint8, T.sl_uint8] T.sl_uint8 #[(.slice s_5.a s_5.n s_5.c), (.slice v_7.a v_7.n v_7.c)]) (fun (v_8 : Sl) (h : Heap) =>
  X_6 v_8 h) h)
  else
  loopW (fun X_10 (s_9 : Sl × Int) (h : Heap) =>
  if (decide (s_9.2 ≥ 0)) = true then
  shiftK (IntKind.i64.wrap (8 * s_9.2))
  (newSlK h 1 #[(.int .u8 (IntKind.u8.wrap (Int.fdiv (IntKind.i64.wrap (8 * ((b0.n : Int)))) (2 ^ min (Int.toNat (IntKind.i64.wrap (8 * s_9.2))) (IntKind.bits .i64)))))] T.uint8 (fun (v_11 : Sl) (h : Heap) =>
  opK Try.prog .slice (Builtin.append_ #[T.sl_uint8, T.sl_uint8] T.sl_uint8 #[(.slice s_9.1.a s_9.1.n s_9.1.c), (.slice v_11.a v_11.n v_11.c)]) (fun (v_12 : Sl) (h : Heap) =>
  X_10 (v_12, IntKind.i64.wrap (s_9.2 - 1)) h) h))
  else
  R (.slice s_9.1.a s_9.1.n s_9.1.c) h) (s_5, 7) h)) v_4 h) h)) h)
def ref02_filled.ann : Ann := (.seq .leaf (.seq .leaf (.seq (.block (.loop [(3, .slice)] (.seq (.seq .leaf (.cond .leaf .leaf)) (.block .leaf)))) (.seq .leaf (.seq (.seq .leaf (.block (.loop [(3, .slice), (5, (.int .i64))] (.seq (.seq .leaf (.cond .leaf .leaf)) (.seq (.block .leaf) .leaf))))) (.seq .leaf .leaf))))))
theorem ref02_filled.eq (b0 : Sl) (R : Value → Heap → Prop) (h : Heap) : ref02_filled.body b0 R h = evFn Try.prog Try.f59 ref02_filled.ann [(.slice b0.a b0.n b0.c)] R h := by kernel_rfl
theorem ref02_filled.calls {b0 : Sl} {R : Value → Heap → Prop} {h : Heap} (H : ref02_filled.body b0 R h) : HC Try.prog F.ref02_filled #[(.slice b0.a b0.n b0.c)] R h :=
  evFn_sound mixed Try.func59 (by kernel_rfl) (ref02_filled.eq b0 R h ▸ H)

/-! zugzwang/zugzwangref02.constants -/
def ref02_constants.body  (R : Value → Heap → Prop) (h : Heap) : Prop :=
  newSlK h 64 #[(.int .u32 1116352408), (.int .u32 1899447441), (.int .u32 3049323471), (.int .u32 3921009573), (.int .u32 961987163), (.int .u32 1508970993), (.int .u32 2453635748), (.int .u32 2870763221), (.int .u32 3624381080), (.int .u32 310598401), (.int .u32 607225278), (.int .u32 1426881987), (.int .u32 1925078388), (.int .u32 2162078206), (.int .u32 2614888103), (.int .u32 3248222580), (.int .u32 3835390401), (.int .u32 4022224774), (.int .u32 264347078), (.int .u32 604807628), (.int .u32 770255983), (.int .u32 1249150122), (.int .u32 1555081692), (.int .u32 1996064986), (.int .u32 2554220882), (.int .u32 2821834349), (.int .u32 2952996808), (.int .u32 3210313671), (.int .u32 3336571891), (.int .u32 3584528711), (.int .u32 113926993), (.int .u32 338241895), (.int .u32 666307205), (.int .u32 773529912), (.int .u32 1294757372), (.int .u32 1396182291), (.int .u32 1695183700), (.int .u32 1986661051), (.int .u32 2177026350), (.int .u32 2456956037), (.int .u32 2730485921), (.int .u32 2820302411), (.int .u32 3259730800), (.int .u32 3345764771), (.int .u32 3516065817), (.int .u32 3600352804), (.int .u32 4094571909), (.int .u32 275423344), (.int .u32 430227734), (.int .u32 506948616), (.int .u32 659060556), (.int .u32 883997877), (.int .u32 958139571), (.int .u32 1322822218), (.int .u32 1537002063), (.int .u32 1747873779), (.int .u32 1955562222), (.int .u32 2024104815), (.int .u32 2227730452), (.int .u32 2361852424), (.int .u32 2428436474), (.int .u32 2756734187), (.int .u32 3204031479), (.int .u32 3329325298)] T.uint32 (fun (v_1 : Sl) (h : Heap) =>
  R (.slice v_1.a v_1.n v_1.c) h)
def ref02_constants.ann : Ann := (.seq .leaf (.seq .leaf .leaf))
theorem ref02_constants.eq  (R : Value → Heap → Prop) (h : Heap) : ref02_constants.body  R h = evFn Try.prog Try.f60 ref02_constants.ann [] R h := by kernel_rfl
theorem ref02_constants.calls  {R : Value → Heap → Prop} {h : Heap} (H : ref02_constants.body  R h) : HC Try.prog F.ref02_constants #[] R h :=
  evFn_sound mixed Try.func60 (by kernel_rfl) (ref02_constants.eq  R h ▸ H)

/-! zugzwang/zugzwangref02.begin -/
def ref02_begin.body  (R : Value → Heap → Prop) (h : Heap) : Prop :=
  newSlK h 8 #[(.int .u32 1779033703), (.int .u32 3144134277), (.int .u32 1013904242), (.int .u32 2773480762), (.int .u32 1359893119), (.int .u32 2600822924), (.int .u32 528734635), (.int .u32 1541459225)] T.uint32 (fun (v_1 : Sl) (h : Heap) =>
  R (.slice v_1.a v_1.n v_1.c) h)
def ref02_begin.ann : Ann := (.seq .leaf (.seq .leaf .leaf))
theorem ref02_begin.eq  (R : Value → Heap → Prop) (h : Heap) : ref02_begin.body  R h = evFn Try.prog Try.f61 ref02_begin.ann [] R h := by kernel_rfl
theorem ref02_begin.calls  {R : Value → Heap → Prop} {h : Heap} (H : ref02_begin.body  R h) : HC Try.prog F.ref02_begin #[] R h :=
  evFn_sound mixed Try.func61 (by kernel_rfl) (ref02_begin.eq  R h ▸ H)

/-! zugzwang/zugzwangref01.Sum -/
def ref01_Sum.body (words0 : Sl) (R : Value → Heap → Prop) (h : Heap) : Prop :=
  loopW (fun X_2 (s_1 : Int × Int) (h : Heap) =>
  if (decide (s_1.2 < ((words0.n : Int)))) = true then
  idxK words0 s_1.2 (sizeOfT Try.prog T.uint32) (fun (a_3 : Addr) =>
  loadK (.int .u32) h ((some a_3)) (fun (v_4 : Int) =>
  divK 4294967296
  (X_2 (Int.tmod (IntKind.u64.wrap (s_1.1 + (IntKind.u64.wrap v_4))) 4294967296, IntKind.i64.wrap (s_1.2 + 1)) h)))
  else
  R (.int .u32 (IntKind.u32.wrap s_1.1)) h) (0, 0) h
def ref01_Sum.ann : Ann := (.seq .leaf (.seq .leaf (.seq (.seq .leaf (.block (.loop [(3, (.int .u64)), (4, (.int .i64))] (.seq (.seq .leaf (.cond .leaf .leaf)) (.seq (.block .leaf) .leaf))))) (.seq .leaf .leaf))))
theorem ref01_Sum.eq (words0 : Sl) (R : Value → Heap → Prop) (h : Heap) : ref01_Sum.body words0 R h = evFn Try.prog Try.f63 ref01_Sum.ann [(.slice words0.a words0.n words0.c)] R h := by kernel_rfl
theorem ref01_Sum.calls {words0 : Sl} {R : Value → Heap → Prop} {h : Heap} (H : ref01_Sum.body words0 R h) : HC Try.prog F.ref01_Sum #[(.slice words0.a words0.n words0.c)] R h :=
  evFn_sound mixed Try.func63 (by kernel_rfl) (ref01_Sum.eq words0 R h ▸ H)

/-! zugzwang/zugzwangref01.Words -/
def ref01_Words.body (b0 : Sl) (R : Value → Heap → Prop) (h : Heap) : Prop :=
  divK 4
  (if ((Int.tmod ((b0.n : Int)) 4) != 0) = true then
  R (.tuple #[(.slice none 0 0), (.int .i64 4)]) h
  else
  loopW (fun X_2 (s_1 : Sl × Int) (h : Heap) =>
  if (decide (s_1.2 < ((b0.n : Int)))) = true then
  idxK b0 s_1.2 (sizeOfT Try.prog T.uint8) (fun (a_3 : Addr) =>
  idxK b0 (IntKind.i64.wrap (s_1.2 + 1)) (sizeOfT Try.prog T.uint8) (fun (a_4 : Addr) =>
  idxK b0 (IntKind.i64.wrap (s_1.2 + 2)) (sizeOfT Try.prog T.uint8) (fun (a_5 : Addr) =>
  idxK b0 (IntKind.i64.wrap (s_1.2 + 3)) (sizeOfT Try.prog T.uint8) (fun (a_6 : Addr) =>
  loadK (.int .u8) h ((some a_3)) (fun (v_7 : Int) =>
  loadK (.int .u8) h ((some a_4)) (fun (v_8 : Int) =>
  loadK (.int .u8) h ((some a_5)) (fun (v_9 : Int) =>
  loadK (.int .u8) h ((some a_6)) (fun (v_10 : Int) =>
  newSlK h 1 #[(.int .u32 (IntKind.u32.wrap ((IntKind.u32.wrap ((IntKind.u32.wrap ((IntKind.u32.wrap ((IntKind.u32.wrap v_7) * 16777216)) + (IntKind.u32.wrap ((IntKind.u32.wrap v_8) * 65536)))) + (IntKind.u32.wrap ((IntKind.u32.wrap v_9) * 256)))) + (IntKind.u32.wrap v_10))))] T.uint32 (fun (v_11 : Sl) (h : Heap) =>
  opK Try.prog .slice (Builtin.append_ #[T.sl_uint32, T.sl_uint32] T.sl_uint32 #[(.slice s_1.1.a s_1.1.n s_1.1.c), (.slice v_11.a v_11.n v_11.c)]) (fun (v_12 : Sl) (h : Heap) =>
  X_2 (v_12, IntKind.i64.wrap (s_1.2 + 4)) h) h)))))))))
  else
  R (.tuple #[(.slice s_1.1.a s_1.1.n s_1.1.c), (.int .i64 0)]) h) (⟨none, 0, 0⟩, 0) h)
def ref01_Words.ann : Ann := (.seq .leaf (.seq (.seq .leaf (.cond (.seq .leaf .leaf) .leaf)) (.seq .leaf (.seq (.seq .leaf (.block (.loop [(4, .slice), (5, (.int .i64))] (.seq (.seq .leaf (.cond .leaf .leaf)) (.seq (.block (.any (.loc 0 (.loc 1 (.loc 2 (.loc 3 (.loc 7 (.loc 8 (.loc 9 (.loc 10 (.loc 15 (.loc 16 (.loc 17 (.loc 18 (.loc 23 (.loc 24 (.loc 25 (.loc 26 (.st 4 8057274464 (.loc 5 (.loc 6 (.st 11 8057286656 (.loc 12 (.loc 13 (.loc 14 (.st 19 8060403712 (.loc 20 (.loc 21 (.loc 22 (.st 27 8321499136 (.loc 28 (.loc 29 (.last 30 (.last 31 (.loc 32 .done))))))))))))))))))))))))))))))))))) .leaf))))) (.seq .leaf .leaf)))))
theorem ref01_Words.eq (b0 : Sl) (R : Value → Heap → Prop) (h : Heap) : ref01_Words.body b0 R h = evFn Try.prog Try.f80 ref01_Words.ann [(.slice b0.a b0.n b0.c)] R h := by kernel_rfl
theorem ref01_Words.calls {b0 : Sl} {R : Value → Heap → Prop} {h : Heap} (H : ref01_Words.body b0 R h) : HC Try.prog F.ref01_Words #[(.slice b0.a b0.n b0.c)] R h :=
  evFn_sound mixed Try.func80 (by kernel_rfl) (ref01_Words.eq b0 R h ▸ H)

/-! zugzwang/zugzwangref01.bit -/
def ref01_bit.body (x0 : Int) (k1 : Int) (R : Value → Heap → Prop) (h : Heap) : Prop :=
  shiftK k1
  (divK 2
  (R (.bool ((Int.tmod (Int.fdiv x0 (2 ^ min (Int.toNat k1) (IntKind.bits .u32))) 2) == 1)) h))
def ref01_bit.ann : Ann := (.seq .leaf (.seq .leaf .leaf))
theorem ref01_bit.eq (x0 : Int) (k1 : Int) (R : Value → Heap → Prop) (h : Heap) : ref01_bit.body x0 k1 R h = evFn Try.prog Try.f82 ref01_bit.ann [(.int .u32 x0), (.int .i64 k1)] R h := by kernel_rfl
theorem ref01_bit.calls {x0 : Int} {k1 : Int} {R : Value → Heap → Prop} {h : Heap} (H : ref01_bit.body x0 k1 R h) : HC Try.prog F.ref01_bit #[(.int .u32 x0), (.int .i64 k1)] R h :=
  evFn_sound mixed Try.func82 (by kernel_rfl) (ref01_bit.eq x0 k1 R h ▸ H)

/-! zugzwang/zugzwangref01.low -/
def ref01_low.body (n0 : Int) (R : Value → Heap → Prop) (h : Heap) : Prop :=
  divK 32
  (if (decide ((Int.tmod n0 32) < 0)) = true then
  R (.int .i64 (IntKind.i64.wrap ((Int.tmod n0 32) + 32))) h
  else
  R (.int .i64 (Int.tmod n0 32)) h)
def ref01_low.ann : Ann := (.seq .leaf (.seq .leaf (.seq (.seq .leaf (.cond .leaf .leaf)) (.seq .leaf .leaf))))
theorem ref01_low.eq (n0 : Int) (R : Value → Heap → Prop) (h : Heap) : ref01_low.body n0 R h = evFn Try.prog Try.f83 ref01_low.ann [(.int .i64 n0)] R h := by kernel_rfl
theorem ref01_low.calls {n0 : Int} {R : Value → Heap → Prop} {h : Heap} (H : ref01_low.body n0 R h) : HC Try.prog F.ref01_low #[(.int .i64 n0)] R h :=
  evFn_sound mixed Try.func83 (by kernel_rfl) (ref01_low.eq n0 R h ▸ H)

/-! zugzwang/zugzwangref01.place -/
def ref01_place.body (k0 : Int) (one1 : Bool) (R : Value → Heap → Prop) (h : Heap) : Prop :=
  if one1 = true then
  shiftK k0
  (R (.int .u32 (IntKind.u32.wrap (1 * 2 ^ min (Int.toNat k0) (IntKind.bits .u32)))) h)
  else
  R (.int .u32 0) h
def ref01_place.ann : Ann := (.seq .leaf (.seq (.seq .leaf (.cond (.seq .leaf .leaf) .leaf)) (.seq .leaf .leaf)))
theorem ref01_place.eq (k0 : Int) (one1 : Bool) (R : Value → Heap → Prop) (h : Heap) : ref01_place.body k0 one1 R h = evFn Try.prog Try.f84 ref01_place.ann [(.int .i64 k0), (.bool one1)] R h := by kernel_rfl
theorem ref01_place.calls {k0 : Int} {one1 : Bool} {R : Value → Heap → Prop} {h : Heap} (H : ref01_place.body k0 one1 R h) : HC Try.prog F.ref01_place #[(.int .i64 k0), (.bool one1)] R h :=
  evFn_sound mixed Try.func84 (by kernel_rfl) (ref01_place.eq k0 one1 R h ▸ H)

/-! zugzwang/zugzwangref01.Mix -/
def ref01_Mix.body (x0 : Int) (turns1 : Sl) (R : Value → Heap → Prop) (h : Heap) : Prop :=
  loopW (fun X_2 (s_1 : Int × Int) (h : Heap) =>
  if (decide (s_1.2 < 32)) = true then
  loopW (fun X_4 (s_3 : Bool × Int) (h : Heap) =>
  if (decide (s_3.2 < ((turns1.n : Int)))) = true then
  idxK turns1 s_3.2 (sizeOfT Try.prog T.int) (fun (a_5 : Addr) =>
  loadK (.int .i64) h ((some a_5)) (fun (v_6 : Int) =>
  callK Try.prog (.int .i64) F.ref01_low #[(.int .i64 v_6)] (fun (v_7 : Int) (h : Heap) =>
  divK 32
  (callK Try.prog .bool F.ref01_bit #[(.int .u32 x0), (.int .i64 (Int.tmod (IntKind.i64.wrap (s_1.2 + v_7)) 32))] (fun (v_8 : Bool) (h : Heap) =>
  if v_8 = true then
  X_4 (!s_3.1, IntKind.i64.wrap (s_3.2 + 1)) h
  else
  X_4 (s_3.1, IntKind.i64.wrap (s_3.2 + 1)) h) h)) h))
  else
  callK Try.prog (.int .u32) F.ref01_place #[(.int .i64 s_1.2), (.bool s_3.1)] (fun (v_9 : Int) (h : Heap) =>
  X_2 (IntKind.u32.wrap (s_1.1 + v_9), IntKind.i64.wrap (s_1.2 + 1)) h) h) (false, 0) h
  else
  R (.int .u32 s_1.1) h) (0, 0) h
def ref01_Mix.ann : Ann := (.seq .leaf (.seq .leaf (.seq (.seq .leaf (.block (.loop [(5, (.int .u32)), (6, (.int .i64))] (.seq (.seq .leaf (.cond .leaf .leaf)) (.seq (.block (.seq .leaf (.seq (.seq .leaf (.block (.loop [(7, .bool), (8, (.int .i64))] (.seq (.seq .leaf (.cond .leaf .leaf)) (.seq (.block (.seq .leaf (.cond .leaf .leaf))) .leaf))))) .leaf))) .leaf))))) (.seq .leaf .leaf))))
theorem ref01_Mix.eq (x0 : Int) (turns1 : Sl) (R : Value → Heap → Prop) (h : Heap) : ref01_Mix.body x0 turns1 R h = evFn Try.prog Try.f64 ref01_Mix.ann [(.int .u32 x0), (.slice turns1.a turns1.n turns1.c)] R h := by kernel_rfl
theorem ref01_Mix.calls {x0 : Int} {turns1 : Sl} {R : Value → Heap → Prop} {h : Heap} (H : ref01_Mix.body x0 turns1 R h) : HC Try.prog F.ref01_Mix #[(.int .u32 x0), (.slice turns1.a turns1.n turns1.c)] R h :=
  evFn_sound mixed Try.func64 (by kernel_rfl) (ref01_Mix.eq x0 turns1 R h ▸ H)

/-! zugzwang/zugzwangref01.Shift -/
def ref01_Shift.body (x0 : Int) (n1 : Int) (R : Value → Heap → Prop) (h : Heap) : Prop :=
  if (decide (n1 < 0)) = true then
  R (.int .u32 x0) h
  else
  loopW (fun X_2 (s_1 : Int × Int) (h : Heap) =>
  if (decide (s_1.2 < 32)) = true then
  if (decide (n1 < (IntKind.i64.wrap (32 - s_1.2)))) = true then
  callK Try.prog .bool F.ref01_bit #[(.int .u32 x0), (.int .i64 (IntKind.i64.wrap (s_1.2 + n1)))] (fun (v_3 : Bool) (h : Heap) =>
  callK Try.prog (.int .u32) F.ref01_place #[(.int .i64 s_1.2), (.bool v_3)] (fun (v_4 : Int) (h : Heap) =>
  X_2 (IntKind.u32.wrap (s_1.1 + v_4), IntKind.i64.wrap (s_1.2 + 1)) h) h) h
  else
  callK Try.prog (.int .u32) F.ref01_place #[(.int .i64 s_1.2), (.bool false)] (fun (v_5 : Int) (h : Heap) =>
  X_2 (IntKind.u32.wrap (s_1.1 + v_5), IntKind.i64.wrap (s_1.2 + 1)) h) h
  else
  R (.int .u32 s_1.1) h) (0, 0) h
def ref01_Shift.ann : Ann := (.seq .leaf (.seq (.seq .leaf (.cond (.seq .leaf .leaf) .leaf)) (.seq .leaf (.seq (.seq .leaf (.block (.loop [(5, (.int .u32)), (6, (.int .i64))] (.seq (.seq .leaf (.cond .leaf .leaf)) (.seq (.block .leaf) .leaf))))) (.seq .leaf .leaf)))))
theorem ref01_Shift.eq (x0 : Int) (n1 : Int) (R : Value → Heap → Prop) (h : Heap) : ref01_Shift.body x0 n1 R h = evFn Try.prog Try.f94 ref01_Shift.ann [(.int .u32 x0), (.int .i64 n1)] R h := by kernel_rfl
theorem ref01_Shift.calls {x0 : Int} {n1 : Int} {R : Value → Heap → Prop} {h : Heap} (H : ref01_Shift.body x0 n1 R h) : HC Try.prog F.ref01_Shift #[(.int .u32 x0), (.int .i64 n1)] R h :=
  evFn_sound mixed Try.func94 (by kernel_rfl) (ref01_Shift.eq x0 n1 R h ▸ H)

/-! zugzwang/zugzwangref02.small -/
def ref02_small.body (x0 : Int) (i1 : Int) (j2 : Int) (k3 : Int) (R : Value → Heap → Prop) (h : Heap) : Prop :=
  newSlK h 2 #[(.int .i64 i1), (.int .i64 j2)] T.int (fun (v_1 : Sl) (h : Heap) =>
  callK Try.prog (.int .u32) F.ref01_Mix #[(.int .u32 x0), (.slice v_1.a v_1.n v_1.c)] (fun (v_2 : Int) (h : Heap) =>
  callK Try.prog (.int .u32) F.ref01_Shift #[(.int .u32 x0), (.int .i64 k3)] (fun (v_3 : Int) (h : Heap) =>
  R (.int .u32 (IntKind.u32.wrap (BitVec.ofInt (IntKind.bits .u32) v_2 ^^^ BitVec.ofInt (IntKind.bits .u32) v_3).toNat)) h) h) h)
def ref02_small.ann : Ann := (.seq .leaf (.seq .leaf .leaf))
theorem ref02_small.eq (x0 : Int) (i1 : Int) (j2 : Int) (k3 : Int) (R : Value → Heap → Prop) (h : Heap) : ref02_small.body x0 i1 j2 k3 R h = evFn Try.prog Try.f81 ref02_small.ann [(.int .u32 x0), (.int .i64 i1), (.int .i64 j2), (.int .i64 k3)] R h := by kernel_rfl
theorem ref02_small.calls {x0 : Int} {i1 : Int} {j2 : Int} {k3 : Int} {R : Value → Heap → Prop} {h : Heap} (H : ref02_small.body x0 i1 j2 k3 R h) : HC Try.prog F.ref02_small #[(.int .u32 x0), (.int .i64 i1), (.int .i64 j2), (.int .i64 k3)] R h :=
  evFn_sound mixed Try.func81 (by kernel_rfl) (ref02_small.eq x0 i1 j2 k3 R h ▸ H)

/-! zugzwang/zugzwangref02.schedule -/
def ref02_schedule.body (block0 : Sl) (R : Value → Heap → Prop) (h : Heap) : Prop :=
  callK Try.prog (Kd.pair .slice (.int .i64)) F.ref01_Words #[(.slice block0.a block0.n block0.c)] (fun (v_1 : Sl × Int) (h : Heap) =>
  loopW (fun X_3 (s_2 : Sl × Int) (h : Heap) =>
  if (decide (s_2.2 < 64)) = true then
  idxK s_2.1 (IntKind.i64.wrap (s_2.2 - 16)) (sizeOfT Try.prog T.uint32) (fun (a_4 : Addr) =>
  idxK s_2.1 (IntKind.i64.wrap (s_2.2 - 15)) (sizeOfT Try.prog T.uint32) (fun (a_5 : Addr) =>
  idxK s_2.1 (IntKind.i64.wrap (s_2.2 - 7)) (sizeOfT Try.prog T.uint32) (fun (a_6 : Addr) =>
  idxK s_2.1 (IntKind.i64.wrap (s_2.2 - 2)) (sizeOfT Try.prog T.uint32) (fun (a_7 : Addr) =>
  loadK (.int .u32) h ((some a_4)) (fun (v_8 : Int) =>
  loadK (.int .u32) h ((some a_5)) (fun (v_9 : Int) =>
  loadK (.int .u32) h ((some a_6)) (fun (v_10 : Int) =>
  loadK (.int .u32) h ((some a_7)) (fun (v_11 : Int) =>
  callK Try.prog (.int .u32) F.ref02_small #[(.int .u32 v_9), (.int .i64 7), (.int .i64 18), (.int .i64 3)] (fun (v_12 : Int) (h : Heap) =>
  stillK (.int .u32) h ((some a_7)) v_11 ∧
  stillK (.int .u32) h ((some a_6)) v_10 ∧
  stillK (.int .u32) h ((some a_4)) v_8 ∧
  callK Try.prog (.int .u32) F.ref02_small #[(.int .u32 v_11), (.int .i64 17), (.int .i64 19), (.int .i64 10)] (fun (v_13 : Int) (h : Heap) =>
  stillK (.int .u32) h ((some a_6)) v_10 ∧
  stillK (.int .u32) h ((some a_4)) v_8 ∧
  newSlK h 4 #[(.int .u32 v_8), (.int .u32 v_12), (.int .u32 v_10), (.int .u32 v_13)] T.uint32 (fun (v_14 : Sl) (h : Heap) =>
  callK Try.prog (.int .u32) F.ref01_Sum #[(.slice v_14.a v_14.n v_14.c)] (fun (v_15 : Int) (h : Heap) =>
  newSlK h 1 #[(.int .u32 v_15)] T.uint32 (fun (v_16 : Sl) (h : Heap) =>
  opK Try.prog .slice (Builtin.append_ #[T.sl_uint32, T.sl_uint32] T.sl_uint32 #[(.slice s_2.1.a s_2.1.n s_2.1.c), (.slice v_16.a v_16.n v_16.c)]) (fun (v_17 : Sl) (h : Heap) =>
  X_3 (v_17, IntKind.i64.wrap (s_2.2 + 1)) h) h)) h)) h) h))))))))
  else
  R (.slice s_2.1.a s_2.1.n s_2.1.c) h) (v_1.1, 16) h) h
def ref02_schedule.ann : Ann := (.seq .leaf (.seq .leaf (.seq (.seq .leaf (.block (.loop [(3, .slice), (5, (.int .i64))] (.seq (.seq .leaf (.cond .leaf .leaf)) (.seq (.block (.any (.loc 0 (.loc 1 (.loc 2 (.loc 3 (.loc 4 (.loc 6 (.loc 7 (.loc 8 (.loc 9 (.loc 12 (.loc 13 (.loc 14 (.loc 15 (.loc 17 (.loc 18 (.loc 19 (.loc 20 (.st 5 260046848 (.st 10 264243200 (.st 16 260046848 (.st 21 264241152 (.last 11 (.last 22 (.last 23 (.last 24 (.last 25 (.last 26 (.loc 27 .done)))))))))))))))))))))))))))))) .leaf))))) (.seq .leaf .leaf))))
theorem ref02_schedule.eq (block0 : Sl) (R : Value → Heap → Prop) (h : Heap) : ref02_schedule.body block0 R h = evFn Try.prog Try.f62 ref02_schedule.ann [(.slice block0.a block0.n block0.c)] R h := by kernel_rfl
theorem ref02_schedule.calls {block0 : Sl} {R : Value → Heap → Prop} {h : Heap} (H : ref02_schedule.body block0 R h) : HC Try.prog F.ref02_schedule #[(.slice block0.a block0.n block0.c)] R h :=
  evFn_sound mixed Try.func62 (by kernel_rfl) (ref02_schedule.eq block0 R h ▸ H)

/-! zugzwang/zugzwangref01.Choose -/
def ref01_Choose.body (x0 : Int) (a1 : Int) (b2 : Int) (R : Value → Heap → Prop) (h : Heap) : Prop :=
  loopW (fun X_2 (s_1 : Int × Int) (h : Heap) =>
  if (decide (s_1.2 < 32)) = true then
  callK Try.prog .bool F.ref01_bit #[(.int .u32 x0), (.int .i64 s_1.2)] (fun (v_3 : Bool) (h : Heap) =>
  if v_3 = true then
  callK Try.prog .bool F.ref01_bit #[(.int .u32 a1), (.int .i64 s_1.2)] (fun (v_4 : Bool) (h : Heap) =>
  if v_4 = true then
  callK Try.prog (.int .u32) F.ref01_place #[(.int .i64 s_1.2), (.bool true)] (fun (v_5 : Int) (h : Heap) =>
  X_2 (IntKind.u32.wrap (s_1.1 + v_5), IntKind.i64.wrap (s_1.2 + 1)) h) h
  else
  callK Try.prog .bool F.ref01_bit #[(.int .u32 x0), (.int .i64 s_1.2)] (fun (v_6 : Bool) (h : Heap) =>
  if (!v_6) = true then
  callK Try.prog .bool F.ref01_bit #[(.int .u32 b2), (.int .i64 s_1.2)] (fun (v_7 : Bool) (h : Heap) =>
  callK Try.prog (.int .u32) F.ref01_place #[(.int .i64 s_1.2), (.bool v_7)] (fun (v_8 : Int) (h : Heap) =>
  X_2 (IntKind.u32.wrap (s_1.1 + v_8), IntKind.i64.wrap (s_1.2 + 1)) h) h) h
  else
  callK Try.prog (.int .u32) F.ref01_place #[(.int .i64 s_1.2), (.bool false)] (fun (v_9 : Int) (h : Heap) =>
  X_2 (IntKind.u32.wrap (s_1.1 + v_9), IntKind.i64.wrap (s_1.2 + 1)) h) h) h) h
  else
  callK Try.prog .bool F.ref01_bit #[(.int .u32 x0), (.int .i64 s_1.2)] (fun (v_10 : Bool) (h : Heap) =>
  if (!v_10) = true then
  callK Try.prog .bool F.ref01_bit #[(.int .u32 b2), (.int .i64 s_1.2)] (fun (v_11 : Bool) (h : Heap) =>
  callK Try.prog (.int .u32) F.ref01_place #[(.int .i64 s_1.2), (.bool v_11)] (fun (v_12 : Int) (h : Heap) =>
  X_2 (IntKind.u32.wrap (s_1.1 + v_12), IntKind.i64.wrap (s_1.2 + 1)) h) h) h
  else
  callK Try.prog (.int .u32) F.ref01_place #[(.int .i64 s_1.2), (.bool false)] (fun (v_13 : Int) (h : Heap) =>
  X_2 (IntKind.u32.wrap (s_1.1 + v_13), IntKind.i64.wrap (s_1.2 + 1)) h) h) h) h
  else
  R (.int .u32 s_1.1) h) (0, 0) h
def ref01_Choose.ann : Ann := (.seq .leaf (.seq .leaf (.seq (.seq .leaf (.block (.loop [(7, (.int .u32)), (8, (.int .i64))] (.seq (.seq .leaf (.cond .leaf .leaf)) (.seq (.block .leaf) .leaf))))) (.seq .leaf .leaf))))
theorem ref01_Choose.eq (x0 : Int) (a1 : Int) (b2 : Int) (R : Value → Heap → Prop) (h : Heap) : ref01_Choose.body x0 a1 b2 R h = evFn Try.prog Try.f65 ref01_Choose.ann [(.int .u32 x0), (.int .u32 a1), (.int .u32 b2)] R h := by kernel_rfl
theorem ref01_Choose.calls {x0 : Int} {a1 : Int} {b2 : Int} {R : Value → Heap → Prop} {h : Heap} (H : ref01_Choose.body x0 a1 b2 R h) : HC Try.prog F.ref01_Choose #[(.int .u32 x0), (.int .u32 a1), (.int .u32 b2)] R h :=
  evFn_sound mixed Try.func65 (by kernel_rfl) (ref01_Choose.eq x0 a1 b2 R h ▸ H)

/-! zugzwang/zugzwangref01.Most -/
def ref01_Most.body (words0 : Sl) (R : Value → Heap → Prop) (h : Heap) : Prop :=
  loopW (fun X_2 (s_1 : Int × Int) (h : Heap) =>
  if (decide (s_1.2 < 32)) = true then
  loopW (fun X_4 (s_3 : Int × Int) (h : Heap) =>
  if (decide (s_3.2 < ((words0.n : Int)))) = true then
  idxK words0 s_3.2 (sizeOfT Try.prog T.uint32) (fun (a_5 : Addr) =>
  loadK (.int .u32) h ((some a_5)) (fun (v_6 : Int) =>
  callK Try.prog .bool F.ref01_bit #[(.int .u32 v_6), (.int .i64 s_1.2)] (fun (v_7 : Bool) (h : Heap) =>
  if v_7 = true then
  X_4 (IntKind.i64.wrap (s_3.1 + 1), IntKind.i64.wrap (s_3.2 + 1)) h
  else
  X_4 (IntKind.i64.wrap (s_3.1 - 1), IntKind.i64.wrap (s_3.2 + 1)) h) h))
  else
  callK Try.prog (.int .u32) F.ref01_place #[(.int .i64 s_1.2), (.bool (decide (s_3.1 > 0)))] (fun (v_8 : Int) (h : Heap) =>
  X_2 (IntKind.u32.wrap (s_1.1 + v_8), IntKind.i64.wrap (s_1.2 + 1)) h) h) (0, 0) h
  else
  R (.int .u32 s_1.1) h) (0, 0) h
def ref01_Most.ann : Ann := (.seq .leaf (.seq .leaf (.seq (.seq .leaf (.block (.loop [(3, (.int .u32)), (4, (.int .i64))] (.seq (.seq .leaf (.cond .leaf .leaf)) (.seq (.block (.seq .leaf (.seq (.seq .leaf (.block (.loop [(5, (.int .i64)), (6, (.int .i64))] (.seq (.seq .leaf (.cond .leaf .leaf)) (.seq (.block (.seq .leaf (.cond .leaf .leaf))) .leaf))))) .leaf))) .leaf))))) (.seq .leaf .leaf))))
theorem ref01_Most.eq (words0 : Sl) (R : Value → Heap → Prop) (h : Heap) : ref01_Most.body words0 R h = evFn Try.prog Try.f66 ref01_Most.ann [(.slice words0.a words0.n words0.c)] R h := by kernel_rfl
theorem ref01_Most.calls {words0 : Sl} {R : Value → Heap → Prop} {h : Heap} (H : ref01_Most.body words0 R h) : HC Try.prog F.ref01_Most #[(.slice words0.a words0.n words0.c)] R h :=
  evFn_sound mixed Try.func66 (by kernel_rfl) (ref01_Most.eq words0 R h ▸ H)

/-! zugzwang/zugzwangref01.Bytes -/
def ref01_Bytes.body (words0 : Sl) (R : Value → Heap → Prop) (h : Heap) : Prop :=
  loopW (fun X_2 (s_1 : Sl × Int) (h : Heap) =>
  if (decide (s_1.2 < ((words0.n : Int)))) = true then
  loopW (fun X_4 (s_3 : Sl × Int) (h : Heap) =>
  if (decide (s_3.2 ≥ 0)) = true then
  idxK words0 s_1.2 (sizeOfT Try.prog T.uint32) (fun (a_5 : Addr) =>
  loadK (.int .u32) h ((some a_5)) (fun (v_6 : Int) =>
  shiftK (IntKind.i64.wrap (8 * s_3.2))
  (divK 256
  (newSlK h 1 #[(.int .u8 (IntKind.u8.wrap (Int.tmod (Int.fdiv v_6 (2 ^ min (Int.toNat (IntKind.i64.wrap (8 * s_3.2))) (IntKind.bits .u32))) 256)))] T.uint8 (fun (v_7 : Sl) (h : Heap) =>
  opK Try.prog .slice (Builtin.append_ #[T.sl_uint8, T.sl_uint8] T.sl_uint8 #[(.slice s_3.1.a s_3.1.n s_3.1.c), (.slice v_7.a v_7.n v_7.c)]) (fun (v_8 : Sl) (h : Heap) =>
  X_4 (v_8, IntKind.i64.wrap (s_3.2 - 1)) h) h)))))
  else
  X_2 (s_3.1, IntKind.i64.wrap (s_1.2 + 1)) h) (s_1.1, 3) h
  else
  R (.slice s_1.1.a s_1.1.n s_1.1.c) h) (⟨none, 0, 0⟩, 0) h
def ref01_Bytes.ann : Ann := (.seq .leaf (.seq .leaf (.seq (.seq .leaf (.block (.loop [(3, .slice), (4, (.int .i64))] (.seq (.seq .leaf (.cond .leaf .leaf)) (.seq (.block (.seq .leaf (.block (.loop [(3, .slice), (5, (.int .i64))] (.seq (.seq .leaf (.cond .leaf .leaf)) (.seq (.block .leaf) .leaf)))))) .leaf))))) (.seq .leaf .leaf))))
theorem ref01_Bytes.eq (words0 : Sl) (R : Value → Heap → Prop) (h : Heap) : ref01_Bytes.body words0 R h = evFn Try.prog Try.f67 ref01_Bytes.ann [(.slice words0.a words0.n words0.c)] R h := by kernel_rfl
theorem ref01_Bytes.calls {words0 : Sl} {R : Value → Heap → Prop} {h : Heap} (H : ref01_Bytes.body words0 R h) : HC Try.prog F.ref01_Bytes #[(.slice words0.a words0.n words0.c)] R h :=
  evFn_sound mixed Try.func67 (by kernel_rfl) (ref01_Bytes.eq words0 R h ▸ H)

/-! zugzwang/zugzwangref02.Of -/
def ref02_Of.body (b0 : Sl) (R : Value → Heap → Prop) (h : Heap) : Prop :=
  newK h (zerosOf Try.prog T.api_Tag) T.api_Tag (fun (v_1 : Option Addr) (h : Heap) =>
  callK Try.prog .slice F.ref02_filled #[(.slice b0.a b0.n b0.c)] (fun (v_2 : Sl) (h : Heap) =>
  callK Try.prog .slice F.ref02_constants #[] (fun (v_3 : Sl) (h : Heap) =>
  callK Try.prog .slice F.ref02_begin #[] (fun (v_4 : Sl) (h : Heap) =>
  loopW (fun X_6 (s_5 : Int) (h : Heap) =>
  if (decide (s_5 < ((v_2.n : Int)))) = true then
  sliceK v_2 (some s_5) (some (IntKind.i64.wrap (s_5 + 64))) none (sizeOfT Try.prog T.uint8) (fun (v_7 : Sl) =>
  callK Try.prog .slice F.ref02_schedule #[(.slice v_7.a v_7.n v_7.c)] (fun (v_8 : Sl) (h : Heap) =>
  newSlK h 0 #[] T.uint32 (fun (v_9 : Sl) (h : Heap) =>
  opK Try.prog .slice (Builtin.append_ #[T.sl_uint32, T.sl_uint32] T.sl_uint32 #[(.slice v_9.a v_9.n v_9.c), (.slice v_4.a v_4.n v_4.c)]) (fun (v_10 : Sl) (h : Heap) =>
  loopW (fun X_12 (s_11 : Sl × Int) (h : Heap) =>
  if (decide (s_11.2 < 64)) = true then
  idxK s_11.1 7 (sizeOfT Try.prog T.uint32) (fun (a_13 : Addr) =>
  idxK s_11.1 4 (sizeOfT Try.prog T.uint32) (fun (a_14 : Addr) =>
  idxK s_11.1 4 (sizeOfT Try.prog T.uint32) (fun (a_15 : Addr) =>
  idxK s_11.1 5 (sizeOfT Try.prog T.uint32) (fun (a_16 : Addr) =>
  idxK s_11.1 6 (sizeOfT Try.prog T.uint32) (fun (a_17 : Addr) =>
  idxK v_3 s_11.2 (sizeOfT Try.prog T.uint32) (fun (a_18 : Addr) =>
  idxK v_8 s_11.2 (sizeOfT Try.prog T.uint32) (fun (a_19 : Addr) =>
  loadK (.int .u32) h ((some a_13)) (fun (v_20 : Int) =>
  loadK (.int .u32) h ((some a_14)) (fun (v_21 : Int) =>
  loadK (.int .u32) h ((some a_15)) (fun (v_22 : Int) =>
  loadK (.int .u32) h ((some a_16)) (fun (v_23 : Int) =>
  loadK (.int .u32) h ((some a_17)) (fun (v_24 : Int) =>
  loadK (.int .u32) h ((some a_18)) (fun (v_25 : Int) =>
  loadK (.int .u32) h ((some a_19)) (fun (v_26 : Int) =>
  newSlK h 3 #[(.int .i64 6), (.int .i64 11), (.int .i64 25)] T.int (fun (v_27 : Sl) (h : Heap) =>
  callK Try.prog (.int .u32) F.ref01_Mix #[(.int .u32 v_21), (.slice v_27.a v_27.n v_27.c)] (fun (v_28 : Int) (h : Heap) =>
  stillK (.int .u32) h ((some a_19)) v_26 ∧
  stillK (.int .u32) h ((some a_18)) v_25 ∧
  stillK (.int .u32) h ((some a_17)) v_24 ∧
  stillK (.int .u32) h ((some a_16)) v_23 ∧
  stillK (.int .u32) h ((some a_15)) v_22 ∧
  stillK (.int .u32) h ((some a_13)) v_20 ∧
  callK Try.prog (.int .u32) F.ref01_Choose #[(.int .u32 v_22), (.int .u32 v_23), (.int .u32 v_24)] (fun (v_29 : Int) (h : Heap) =>
  stillK (.int .u32) h ((some a_19)) v_26 ∧
  stillK (.int .u32) h ((some a_18)) v_25 ∧
  stillK (.int .u32) h ((some a_13)) v_20 ∧
  newSlK h 5 #[(.int .u32 v_20), (.int .u32 v_28), (.int .u32 v_29), (.int .u32 v_25), (.int .u32 v_26)] T.uint32 (fun (v_30 : Sl) (h : Heap) =>
  callK Try.prog (.int .u32) F.ref01_Sum #[(.slice v_30.a v_30.n v_30.c)] (fun (v_31 : Int) (h : Heap) =>
  idxK s_11.1 0 (sizeOfT Try.prog T.uint32) (fun (a_32 : Addr) =>
  sliceK s_11.1 none (some 3) none (sizeOfT Try.prog T.uint32) (fun (v_33 : Sl) =>
  loadK (.int .u32) h ((some a_32)) (fun (v_34 : Int) =>
  newSlK h 3 #[(.int .i64 2), (.int .i64 13), (.int .i64 22)] T.int (fun (v_35 : Sl) (h : Heap) =>
  callK Try.prog (.int .u32) F.ref01_Mix #[(.int .u32 v_34), (.slice v_35.a v_35.n v_35.c)] (fun (v_36 : Int) (h : Heap) =>
  callK Try.prog (.int .u32) F.ref01_Most #[(.slice v_33.a v_33.n v_33.c)] (fun (v_37 : Int) (h : Heap) =>
  newSlK h 2 #[(.int .u32 v_36), (.int .u32 v_37)] T.uint32 (fun (v_38 : Sl) (h : Heap) =>
  callK Try.prog (.int .u32) F.ref01_Sum #[(.slice v_38.a v_38.n v_38.c)] (fun (v_39 : Int) (h : Heap) =>
  idxK s_11.1 0 (sizeOfT Try.prog T.uint32) (fun (a_40 : Addr) =>
  idxK s_11.1 1 (sizeOfT Try.prog T.uint32) (fun (a_41 : Addr) =>
  idxK s_11.1 2 (sizeOfT Try.prog T.uint32) (fun (a_42 : Addr) =>
  idxK s_11.1 3 (sizeOfT Try.prog T.uint32) (fun (a_43 : Addr) =>
  idxK s_11.1 4 (sizeOfT Try.prog T.uint32) (fun (a_44 : Addr) =>
  idxK s_11.1 5 (sizeOfT Try.prog T.uint32) (fun (a_45 : Addr) =>
  idxK s_11.1 6 (sizeOfT Try.prog T.uint32) (fun (a_46 : Addr) =>
  loadK (.int .u32) h ((some a_40)) (fun (v_47 : Int) =>
  loadK (.int .u32) h ((some a_41)) (fun (v_48 : Int) =>
  loadK (.int .u32) h ((some a_42)) (fun (v_49 : Int) =>
  loadK (.int .u32) h ((some a_43)) (fun (v_50 : Int) =>
  loadK (.int .u32) h ((some a_44)) (fun (v_51 : Int) =>
  loadK (.int .u32) h ((some a_45)) (fun (v_52 : Int) =>
  loadK (.int .u32) h ((some a_46)) (fun (v_53 : Int) =>
  newSlK h 8 #[(.int .u32 (IntKind.u32.wrap (v_31 + v_39))), (.int .u32 v_47), (.int .u32 v_48), (.int .u32 v_49), (.int .u32 (IntKind.u32.wrap (v_50 + v_31))), (.int .u32 v_51), (.int .u32 v_52), (.int .u32 v_53)] T.uint32 (fun (v_54 : Sl) (h : Heap) =>
  X_12 (v_54, IntKind.i64.wrap (s_11.2 + 1)) h)))))))))))))))) h)) h) h))))) h)) h) h)))))))))))))))
  else
  loopW (fun X_56 (s_55 : Int) (h : Heap) =>
  if (decide (s_55 < 8)) = true then
  idxK v_4 s_55 (sizeOfT Try.prog T.uint32) (fun (a_57 : Addr) =>
  idxK s_11.1 s_55 (sizeOfT Try.prog T.uint32) (fun (a_58 : Addr) =>
  loadK (.int .u32) h ((some a_57)) (fun (v_59 : Int) =>
  loadK (.int .u32) h ((some a_58)) (fun (v_60 : Int) =>
  idxK v_4 s_55 (sizeOfT Try.prog T.uint32) (fun (a_61 : Addr) =>
  storeK h ((some a_61)) (.int .u32 (IntKind.u32.wrap (v_59 + v_60))) (fun (h : Heap) =>
  X_56 (IntKind.i64.wrap (s_55 + 1)) h))))))
  else
  X_6 (IntKind.i64.wrap (s_5 + 64)) h) 0 h) (v_10, 0) h) h)) h)
  else
  newK h (zerosOf Try.prog T.api_Tag) T.api_Tag (fun (out_62 : Option Addr) (h : Heap) =>
  callK Try.prog .slice F.ref01_Bytes #[(.slice v_4.a v_4.n v_4.c)] (fun (v_63 : Sl) (h : Heap) =>
  loopW (fun X_65 (s_64 : Int) (h : Heap) =>
  if (decide (s_64 < 32)) = true then
  idxK v_63 s_64 (sizeOfT Try.prog T.uint8) (fun (a_66 : Addr) =>
  loadK (.int .u8) h ((some a_66)) (fun (v_67 : Int) =>
  idxArrK out_62 32 s_64 (sizeOfT Try.prog T.uint8) (fun (a_68 : Addr) =>
  storeK h ((some a_68)) (.int .u8 v_67) (fun (h : Heap) =>
  X_65 (IntKind.i64.wrap (s_64 + 1)) h))))
  else
  loadAggK (sizeOfT Try.prog T.api_Tag) h out_62 (fun (v_69 : Array Value) =>
  storeAggK (sizeOfT Try.prog T.api_Tag) h v_1 v_69 (fun (h : Heap) =>
  quietK Try.prog .agg (Instr.loadAt T.api_Tag (.pointer v_1)) (fun (r_70 : Array Value) =>
  R (.agg r_70) h) h))) 0 h) h)) 0 h) h) h) h)
def ref02_Of.ann : Ann := (.seq .leaf (.seq .leaf (.seq .leaf (.seq .leaf (.seq (.seq .leaf (.block (.loop [(6, (.int .i64))] (.seq (.seq .leaf (.cond .leaf .leaf)) (.seq (.block (.seq .leaf (.seq .leaf (.seq (.seq .leaf (.block (.loop [(8, .slice), (9, (.int .i64))] (.seq (.seq .leaf (.cond .leaf .leaf)) (.seq (.block (.seq (.any (.loc 0 (.loc 1 (.loc 3 (.loc 4 (.loc 8 (.loc 9 (.loc 11 (.loc 12 (.loc 14 (.loc 15 (.loc 18 (.loc 19 (.loc 20 (.loc 22 (.loc 23 (.loc 24 (.st 2 469762048 (.st 5 469893248 (.st 10 469893120 (.st 13 469893120 (.st 16 469893120 (.st 21 469762048 (.st 25 469762048 (.last 6 (.last 7 (.last 17 (.last 26 (.last 27 (.loc 28 .done)))))))))))))))))))))))))))))) (.seq (.any (.loc 0 (.loc 1 (.loc 5 (.loc 6 (.st 2 1936 (.last 3 (.last 4 (.last 7 (.last 8 (.last 9 (.loc 10 .done)))))))))))) (.any (.loc 0 (.loc 1 (.loc 2 (.loc 3 (.loc 4 (.loc 6 (.loc 7 (.loc 9 (.loc 10 (.loc 12 (.loc 13 (.loc 15 (.loc 17 (.loc 18 (.loc 20 (.loc 21 (.loc 23 (.loc 24 (.st 5 201326592 (.st 8 201326592 (.st 11 201326592 (.st 14 201392128 (.loc 16 (.st 19 201326592 (.st 22 201326592 (.st 25 201326592 (.last 26 (.loc 27 .done)))))))))))))))))))))))))))))))) .leaf))))) (.seq .leaf (.block (.loop [(12, (.int .i64))] (.seq (.seq .leaf (.cond .leaf .leaf)) (.seq (.block (.any (.loc 0 (.loc 1 (.loc 2 (.loc 3 (.loc 4 (.loc 6 (.loc 7 (.loc 8 (.st 5 7168 (.st 9 7168 (.loc 10 (.loc 11 (.last 12 .done))))))))))))))) .leaf))))))))) .leaf))))) (.seq .leaf (.seq .leaf (.seq (.seq .leaf (.block (.loop [(14, (.int .i64))] (.seq (.seq .leaf (.cond .leaf .leaf)) (.seq (.block .leaf) .leaf))))) (.seq .leaf .leaf)))))))))
theorem ref02_Of.eq (b0 : Sl) (R : Value → Heap → Prop) (h : Heap) : ref02_Of.body b0 R h = evFn Try.prog Try.f49 ref02_Of.ann [(.slice b0.a b0.n b0.c)] R h := by kernel_rfl
theorem ref02_Of.calls {b0 : Sl} {R : Value → Heap → Prop} {h : Heap} (H : ref02_Of.body b0 R h) : HC Try.prog F.ref02_Of #[(.slice b0.a b0.n b0.c)] R h :=
  evFn_sound mixed Try.func49 (by kernel_rfl) (ref02_Of.eq b0 R h ▸ H)

/-! (*zugzwang/zugzwangref04.Maker).ask -/
def ref04_Maker_ask.body (m0 : Option Addr) (x1 : Array Value) (R : Value → Heap → Prop) (h : Heap) : Prop :=
  newK h x1 T.zugzwangref04_Thing (fun (x_1 : Option Addr) (h : Heap) =>
  newK h (zerosOf Try.prog T.api_Tag) T.api_Tag (fun (v_2 : Option Addr) (h : Heap) =>
  loopW (fun X_4 (s_3 : Int) (h : Heap) =>
  derefK m0 (fun (a_5 : Addr) =>
  fldK ((some a_5)) 2 (fun (a_6 : Addr) =>
  loadK .slice h ((some a_6)) (fun (v_7 : Sl) =>
  if (decide (s_3 < ((v_7.n : Int)))) = true then
  derefK m0 (fun (a_8 : Addr) =>
  fldK ((some a_8)) 2 (fun (a_9 : Addr) =>
  loadK .slice h ((some a_9)) (fun (v_10 : Sl) =>
  idxK v_10 s_3 (sizeOfT Try.prog T.zugzwangref04_Thing) (fun (a_11 : Addr) =>
  loadAggK (sizeOfT Try.prog T.zugzwangref04_Thing) h ((some a_11)) (fun (v_12 : Array Value) =>
  loadAggK (sizeOfT Try.prog T.zugzwangref04_Thing) h x_1 (fun (v_13 : Array Value) =>
  eqK Try.prog (binSem .eql T.zugzwangref04_Thing (.tmp 21) (.tmp 22) (.agg v_12) (.agg v_13)) (fun (v_14 : Bool) =>
  if v_14 = true then
  callK Try.prog .agg F.ref04_Number #[(.int .i64 s_3)] (fun (v_15 : Array Value) (h : Heap) =>
  storeAggK (sizeOfT Try.prog T.api_Tag) h v_2 v_15 (fun (h : Heap) =>
  quietK Try.prog .agg (Instr.loadAt T.api_Tag (.pointer v_2)) (fun (r_16 : Array Value) =>
  R (.agg r_16) h) h)) h
  else
  X_4 (IntKind.i64.wrap (s_3 + 1)) h)))))))
  else
  derefK m0 (fun (a_17 : Addr) =>
  fldK ((some a_17)) 2 (fun (a_18 : Addr) =>
  loadK .slice h ((some a_18)) (fun (v_19 : Sl) =>
  loadAggK (sizeOfT Try.prog T.zugzwangref04_Thing) h x_1 (fun (v_20 : Array Value) =>
  opK Try.prog .slice (Instr.buildSlice T.sl_zugzwangref04_Thing 1 #[(0, (.agg v_20))]) (fun (v_21 : Sl) (h : Heap) =>
  opK Try.prog .slice (Builtin.append_ #[T.sl_zugzwangref04_Thing, T.sl_zugzwangref04_Thing] T.sl_zugzwangref04_Thing #[(.slice v_19.a v_19.n v_19.c), (.slice v_21.a v_21.n v_21.c)]) (fun (v_22 : Sl) (h : Heap) =>
  derefK m0 (fun (a_23 : Addr) =>
  fldK ((some a_23)) 2 (fun (a_24 : Addr) =>
  storeK h ((some a_24)) (.slice v_22.a v_22.n v_22.c) (fun (h : Heap) =>
  derefK m0 (fun (a_25 : Addr) =>
  fldK ((some a_25)) 2 (fun (a_26 : Addr) =>
  loadK .slice h ((some a_26)) (fun (v_27 : Sl) =>
  callK Try.prog .agg F.ref04_Number #[(.int .i64 (IntKind.i64.wrap (((v_27.n : Int)) - 1)))] (fun (v_28 : Array Value) (h : Heap) =>
  storeAggK (sizeOfT Try.prog T.api_Tag) h v_2 v_28 (fun (h : Heap) =>
  quietK Try.prog .agg (Instr.loadAt T.api_Tag (.pointer v_2)) (fun (r_29 : Array Value) =>
  R (.agg r_29) h) h)) h))))))) h) h)))))))) 0 h))
def ref04_Maker_ask.ann : Ann := (.seq .leaf (.seq (.seq .leaf (.block (.loop [(5, (.int .i64))] (.seq (.seq .leaf (.cond .leaf .leaf)) (.seq (.block (.seq .leaf (.cond (.seq .leaf .leaf) .leaf))) .leaf))))) (.seq (.any (.loc 0 (.loc 1 (.loc 2 (.loc 3 (.st 4 1920 (.st 5 1984 (.last 6 (.last 7 (.loc 8 (.loc 9 (.last 10 .done)))))))))))) (.seq .leaf .leaf))))
theorem ref04_Maker_ask.eq (m0 : Option Addr) (x1 : Array Value) (R : Value → Heap → Prop) (h : Heap) : ref04_Maker_ask.body m0 x1 R h = evFn Try.prog Try.f50 ref04_Maker_ask.ann [(.pointer m0), (.agg x1)] R h := by kernel_rfl
theorem ref04_Maker_ask.calls {m0 : Option Addr} {x1 : Array Value} {R : Value → Heap → Prop} {h : Heap} (H : ref04_Maker_ask.body m0 x1 R h) : HC Try.prog F.ref04_Maker_ask #[(.pointer m0), (.agg x1)] R h :=
  evFn_sound mixed Try.func50 (by kernel_rfl) (ref04_Maker_ask.eq m0 x1 R h ▸ H)

/-! (*zugzwang/zugzwangref04.Maker).Sum -/
def ref04_Maker_Sum.body (m0 : Option Addr) (b1 : Sl) (R : Value → Heap → Prop) (h : Heap) : Prop :=
  newK h (zerosOf Try.prog T.api_Tag) T.api_Tag (fun (v_1 : Option Addr) (h : Heap) =>
  derefK m0 (fun (a_2 : Addr) =>
  fldK ((some a_2)) 0 (fun (a_3 : Addr) =>
  loadK .bool h ((some a_3)) (fun (v_4 : Bool) =>
  if v_4 = true then
  callK Try.prog .agg F.ref02_Of #[(.slice b1.a b1.n b1.c)] (fun (v_5 : Array Value) (h : Heap) =>
  storeAggK (sizeOfT Try.prog T.api_Tag) h v_1 v_5 (fun (h : Heap) =>
  quietK Try.prog .agg (Instr.loadAt T.api_Tag (.pointer v_1)) (fun (r_6 : Array Value) =>
  R (.agg r_6) h) h)) h
  else
  opK Try.prog .str (convert T.sl_uint8 T.string (.slice b1.a b1.n b1.c)) (fun (v_7 : ByteArray) (h : Heap) =>
  buildK Try.prog (Instr.build T.zugzwangref04_Thing #[(0, (.int .i64 0)), (2, (.string v_7))]) (fun (v_8 : Array Value) =>
  callK Try.prog .agg F.ref04_Maker_ask #[(.pointer m0), (.agg v_8)] (fun (v_9 : Array Value) (h : Heap) =>
  storeAggK (sizeOfT Try.prog T.api_Tag) h v_1 v_9 (fun (h : Heap) =>
  quietK Try.prog .agg (Instr.loadAt T.api_Tag (.pointer v_1)) (fun (r_10 : Array Value) =>
  R (.agg r_10) h) h)) h)) h))))
def ref04_Maker_Sum.ann : Ann := (.seq .leaf (.seq (.seq .leaf (.cond (.seq .leaf .leaf) .leaf)) (.seq .leaf .leaf)))
theorem ref04_Maker_Sum.eq (m0 : Option Addr) (b1 : Sl) (R : Value → Heap → Prop) (h : Heap) : ref04_Maker_Sum.body m0 b1 R h = evFn Try.prog Try.f35 ref04_Maker_Sum.ann [(.pointer m0), (.slice b1.a b1.n b1.c)] R h := by kernel_rfl
theorem ref04_Maker_Sum.calls {m0 : Option Addr} {b1 : Sl} {R : Value → Heap → Prop} {h : Heap} (H : ref04_Maker_Sum.body m0 b1 R h) : HC Try.prog F.ref04_Maker_Sum #[(.pointer m0), (.slice b1.a b1.n b1.c)] R h :=
  evFn_sound mixed Try.func35 (by kernel_rfl) (ref04_Maker_Sum.eq m0 b1 R h ▸ H)

/-! zugzwang/zugzwangref03.bytes -/
def ref03_bytes.body (t0 : Array Value) (R : Value → Heap → Prop) (h : Heap) : Prop :=
  newK h t0 T.api_Tag (fun (t_1 : Option Addr) (h : Heap) =>
  loopW (fun X_3 (s_2 : Sl × Int) (h : Heap) =>
  if (decide (s_2.2 < 32)) = true then
  idxArrK t_1 32 s_2.2 (sizeOfT Try.prog T.uint8) (fun (a_4 : Addr) =>
  loadK (.int .u8) h ((some a_4)) (fun (v_5 : Int) =>
  newSlK h 1 #[(.int .u8 v_5)] T.uint8 (fun (v_6 : Sl) (h : Heap) =>
  opK Try.prog .slice (Builtin.append_ #[T.sl_uint8, T.sl_uint8] T.sl_uint8 #[(.slice s_2.1.a s_2.1.n s_2.1.c), (.slice v_6.a v_6.n v_6.c)]) (fun (v_7 : Sl) (h : Heap) =>
  X_3 (v_7, IntKind.i64.wrap (s_2.2 + 1)) h) h)))
  else
  R (.slice s_2.1.a s_2.1.n s_2.1.c) h) (⟨none, 0, 0⟩, 0) h)
def ref03_bytes.ann : Ann := (.seq .leaf (.seq .leaf (.seq (.seq .leaf (.block (.loop [(3, .slice), (4, (.int .i64))] (.seq (.seq .leaf (.cond .leaf .leaf)) (.seq (.block .leaf) .leaf))))) (.seq .leaf .leaf))))
theorem ref03_bytes.eq (t0 : Array Value) (R : Value → Heap → Prop) (h : Heap) : ref03_bytes.body t0 R h = evFn Try.prog Try.f69 ref03_bytes.ann [(.agg t0)] R h := by kernel_rfl
theorem ref03_bytes.calls {t0 : Array Value} {R : Value → Heap → Prop} {h : Heap} (H : ref03_bytes.body t0 R h) : HC Try.prog F.ref03_bytes #[(.agg t0)] R h :=
  evFn_sound mixed Try.func69 (by kernel_rfl) (ref03_bytes.eq t0 R h ▸ H)

/-! zugzwang/zugzwangref03.block -/
def ref03_block.body (key0 : Sl) (turn1 : Int) (R : Value → Heap → Prop) (h : Heap) : Prop :=
  joinW (fun (s_1 : Sl) (h : Heap) =>
  opK Try.prog .slice (Instr.makeSlice T.sl_uint8 (.int .i64 64) (.int .i64 64)) (fun (v_2 : Sl) (h : Heap) =>
  loopW (fun X_4 (s_3 : Int) (h : Heap) =>
  if (decide (s_3 < 64)) = true then
  joinW (fun (s_5 : Unit) (h : Heap) =>
  idxK v_2 s_3 (sizeOfT Try.prog T.uint8) (fun (a_6 : Addr) =>
  loadK (.int .u8) h ((some a_6)) (fun (v_7 : Int) =>
  idxK v_2 s_3 (sizeOfT Try.prog T.uint8) (fun (a_8 : Addr) =>
  storeK h ((some a_8)) (.int .u8 (IntKind.u8.wrap (BitVec.ofInt (IntKind.bits .u8) v_7 ^^^ BitVec.ofInt (IntKind.bits .u8) turn1).toNat)) (fun (h : Heap) =>
  X_4 (IntKind.i64.wrap (s_3 + 1)) h)))))
  (fun J_9 =>
  if (decide (s_3 < ((s_1.n : Int)))) = true then
  idxK s_1 s_3 (sizeOfT Try.prog T.uint8) (fun (a_10 : Addr) =>
  loadK (.int .u8) h ((some a_10)) (fun (v_11 : Int) =>
  idxK v_2 s_3 (sizeOfT Try.prog T.uint8) (fun (a_12 : Addr) =>
  storeK h ((some a_12)) (.int .u8 v_11) (fun (h : Heap) =>
  J_9 () h))))
  else
  J_9 () h)
  else
  R (.slice v_2.a v_2.n v_2.c) h) 0 h) h)
  (fun J_13 =>
  if (decide (((key0.n : Int)) > 64)) = true then
  callK Try.prog .agg F.ref02_Of #[(.slice key0.a key0.n key0.c)] (fun (v_14 : Array Value) (h : Heap) =>
  callK Try.prog .slice F.ref03_bytes #[(.agg v_14)] (fun (v_15 : Sl) (h : Heap) =>
  J_13 v_15 h) h) h
  else
  J_13 key0 h)
def ref03_block.ann : Ann := (.seq .leaf (.join [(0, .slice)] (.seq .leaf (.cond .leaf .leaf)) (.seq .leaf (.seq (.seq .leaf (.block (.loop [(6, (.int .i64))] (.seq (.seq .leaf (.cond .leaf .leaf)) (.seq (.block (.join [] (.seq .leaf (.cond .leaf .leaf)) .leaf)) .leaf))))) (.seq .leaf .leaf)))))
theorem ref03_block.eq (key0 : Sl) (turn1 : Int) (R : Value → Heap → Prop) (h : Heap) : ref03_block.body key0 turn1 R h = evFn Try.prog Try.f68 ref03_block.ann [(.slice key0.a key0.n key0.c), (.int .u8 turn1)] R h := by kernel_rfl
theorem ref03_block.calls {key0 : Sl} {turn1 : Int} {R : Value → Heap → Prop} {h : Heap} (H : ref03_block.body key0 turn1 R h) : HC Try.prog F.ref03_block #[(.slice key0.a key0.n key0.c), (.int .u8 turn1)] R h :=
  evFn_sound mixed Try.func68 (by kernel_rfl) (ref03_block.eq key0 turn1 R h ▸ H)

/-! zugzwang/zugzwangref03.Of -/
def ref03_Of.body (key0 : Sl) (b1 : Sl) (R : Value → Heap → Prop) (h : Heap) : Prop :=
  newK h (zerosOf Try.prog T.api_Tag) T.api_Tag (fun (v_1 : Option Addr) (h : Heap) =>
  callK Try.prog .slice F.ref03_block #[(.slice key0.a key0.n key0.c), (.int .u8 54)] (fun (v_2 : Sl) (h : Heap) =>
  opK Try.prog .slice (Builtin.append_ #[T.sl_uint8, T.sl_uint8] T.sl_uint8 #[(.slice v_2.a v_2.n v_2.c), (.slice b1.a b1.n b1.c)]) (fun (v_3 : Sl) (h : Heap) =>
  callK Try.prog .agg F.ref02_Of #[(.slice v_3.a v_3.n v_3.c)] (fun (v_4 : Array Value) (h : Heap) =>
  newK h (zerosOf Try.prog T.api_Tag) T.api_Tag (fun (inner_5 : Option Addr) (h : Heap) =>
  storeAggK (sizeOfT Try.prog T.api_Tag) h inner_5 v_4 (fun (h : Heap) =>
  loadAggK (sizeOfT Try.prog T.api_Tag) h inner_5 (fun (v_6 : Array Value) =>
  callK Try.prog .slice F.ref03_block #[(.slice key0.a key0.n key0.c), (.int .u8 92)] (fun (v_7 : Sl) (h : Heap) =>
  stillAggK (sizeOfT Try.prog T.api_Tag) h inner_5 v_6 ∧
  callK Try.prog .slice F.ref03_bytes #[(.agg v_6)] (fun (v_8 : Sl) (h : Heap) =>
  opK Try.prog .slice (Builtin.append_ #[T.sl_uint8, T.sl_uint8] T.sl_uint8 #[(.slice v_7.a v_7.n v_7.c), (.slice v_8.a v_8.n v_8.c)]) (fun (v_9 : Sl) (h : Heap) =>
  callK Try.prog .agg F.ref02_Of #[(.slice v_9.a v_9.n v_9.c)] (fun (v_10 : Array Value) (h : Heap) =>
  storeAggK (sizeOfT Try.prog T.api_Tag) h v_1 v_10 (fun (h : Heap) =>
  quietK Try.prog .agg (Instr.loadAt T.api_Tag (.pointer v_1)) (fun (r_11 : Array Value) =>
  R (.agg r_11) h) h)) h) h) h) h)))) h) h) h)
def ref03_Of.ann : Ann := (.seq .leaf (.seq .leaf (.seq (.any (.loc 0 (.st 2 120 (.last 1 (.last 3 (.last 4 (.last 5 (.last 6 .done)))))))) .leaf)))
theorem ref03_Of.eq (key0 : Sl) (b1 : Sl) (R : Value → Heap → Prop) (h : Heap) : ref03_Of.body key0 b1 R h = evFn Try.prog Try.f51 ref03_Of.ann [(.slice key0.a key0.n key0.c), (.slice b1.a b1.n b1.c)] R h := by kernel_rfl
theorem ref03_Of.calls {key0 : Sl} {b1 : Sl} {R : Value → Heap → Prop} {h : Heap} (H : ref03_Of.body key0 b1 R h) : HC Try.prog F.ref03_Of #[(.slice key0.a key0.n key0.c), (.slice b1.a b1.n b1.c)] R h :=
  evFn_sound mixed Try.func51 (by kernel_rfl) (ref03_Of.eq key0 b1 R h ▸ H)

/-! (*zugzwang/zugzwangref04.Maker).Mac -/
def ref04_Maker_Mac.body (m0 : Option Addr) (key1 : Sl) (b2 : Sl) (R : Value → Heap → Prop) (h : Heap) : Prop :=
  newK h (zerosOf Try.prog T.api_Tag) T.api_Tag (fun (v_1 : Option Addr) (h : Heap) =>
  derefK m0 (fun (a_2 : Addr) =>
  fldK ((some a_2)) 0 (fun (a_3 : Addr) =>
  loadK .bool h ((some a_3)) (fun (v_4 : Bool) =>
  if v_4 = true then
  callK Try.prog .agg F.ref03_Of #[(.slice key1.a key1.n key1.c), (.slice b2.a b2.n b2.c)] (fun (v_5 : Array Value) (h : Heap) =>
  storeAggK (sizeOfT Try.prog T.api_Tag) h v_1 v_5 (fun (h : Heap) =>
  quietK Try.prog .agg (Instr.loadAt T.api_Tag (.pointer v_1)) (fun (r_6 : Array Value) =>
  R (.agg r_6) h) h)) h
  else
  opK Try.prog .str (convert T.sl_uint8 T.string (.slice key1.a key1.n key1.c)) (fun (v_7 : ByteArray) (h : Heap) =>
  opK Try.prog .str (convert T.sl_uint8 T.string (.slice b2.a b2.n b2.c)) (fun (v_8 : ByteArray) (h : Heap) =>
  buildK Try.prog (Instr.build T.zugzwangref04_Thing #[(0, (.int .i64 1)), (1, (.string v_7)), (2, (.string v_8))]) (fun (v_9 : Array Value) =>
  callK Try.prog .agg F.ref04_Maker_ask #[(.pointer m0), (.agg v_9)] (fun (v_10 : Array Value) (h : Heap) =>
  storeAggK (sizeOfT Try.prog T.api_Tag) h v_1 v_10 (fun (h : Heap) =>
  quietK Try.prog .agg (Instr.loadAt T.api_Tag (.pointer v_1)) (fun (r_11 : Array Value) =>
  R (.agg r_11) h) h)) h)) h) h))))
def ref04_Maker_Mac.ann : Ann := (.seq .leaf (.seq (.seq .leaf (.cond (.seq .leaf .leaf) .leaf)) (.seq .leaf .leaf)))
theorem ref04_Maker_Mac.eq (m0 : Option Addr) (key1 : Sl) (b2 : Sl) (R : Value → Heap → Prop) (h : Heap) : ref04_Maker_Mac.body m0 key1 b2 R h = evFn Try.prog Try.f36 ref04_Maker_Mac.ann [(.pointer m0), (.slice key1.a key1.n key1.c), (.slice b2.a b2.n b2.c)] R h := by kernel_rfl
theorem ref04_Maker_Mac.calls {m0 : Option Addr} {key1 : Sl} {b2 : Sl} {R : Value → Heap → Prop} {h : Heap} (H : ref04_Maker_Mac.body m0 key1 b2 R h) : HC Try.prog F.ref04_Maker_Mac #[(.pointer m0), (.slice key1.a key1.n key1.c), (.slice b2.a b2.n b2.c)] R h :=
  evFn_sound mixed Try.func36 (by kernel_rfl) (ref04_Maker_Mac.eq m0 key1 b2 R h ▸ H)

/-! (*zugzwang/zugzwangref04.Maker).Draw -/
def ref04_Maker_Draw.body (m0 : Option Addr) (k1 : Int) (R : Value → Heap → Prop) (h : Heap) : Prop :=
  newK h (zerosOf Try.prog T.api_Tag) T.api_Tag (fun (v_1 : Option Addr) (h : Heap) =>
  derefK m0 (fun (a_2 : Addr) =>
  fldK ((some a_2)) 0 (fun (a_3 : Addr) =>
  loadK .bool h ((some a_3)) (fun (v_4 : Bool) =>
  if v_4 = true then
  newSlK h 4 #[(.int .u8 100), (.int .u8 114), (.int .u8 97), (.int .u8 119)] T.uint8 (fun (v_5 : Sl) (h : Heap) =>
  opK Try.prog .slice (convert T.sl_uint8 T.sl_uint8 (.slice v_5.a v_5.n v_5.c)) (fun (v_6 : Sl) (h : Heap) =>
  derefK m0 (fun (a_7 : Addr) =>
  fldK ((some a_7)) 1 (fun (a_8 : Addr) =>
  loadK .slice h ((some a_8)) (fun (v_9 : Sl) =>
  opK Try.prog .slice (Builtin.append_ #[T.sl_uint8, T.sl_uint8] T.sl_uint8 #[(.slice v_6.a v_6.n v_6.c), (.slice v_9.a v_9.n v_9.c)]) (fun (v_10 : Sl) (h : Heap) =>
  callK Try.prog .slice F.ref04_eight #[(.int .i64 k1)] (fun (v_11 : Sl) (h : Heap) =>
  opK Try.prog .slice (Builtin.append_ #[T.sl_uint8, T.sl_uint8] T.sl_uint8 #[(.slice v_10.a v_10.n v_10.c), (.slice v_11.a v_11.n v_11.c)]) (fun (v_12 : Sl) (h : Heap) =>
  callK Try.prog .agg F.ref02_Of #[(.slice v_12.a v_12.n v_12.c)] (fun (v_13 : Array Value) (h : Heap) =>
  storeAggK (sizeOfT Try.prog T.api_Tag) h v_1 v_13 (fun (h : Heap) =>
  quietK Try.prog .agg (Instr.loadAt T.api_Tag (.pointer v_1)) (fun (r_14 : Array Value) =>
  R (.agg r_14) h) h)) h) h) h) h)))) h)
  else
  buildK Try.prog (Instr.build T.zugzwangref04_Thing #[(0, (.int .i64 2)), (3, (.int .i64 k1))]) (fun (v_15 : Array Value) =>
  callK Try.prog .agg F.ref04_Maker_ask #[(.pointer m0), (.agg v_15)] (fun (v_16 : Array Value) (h : Heap) =>
  storeAggK (sizeOfT Try.prog T.api_Tag) h v_1 v_16 (fun (h : Heap) =>
  quietK Try.prog .agg (Instr.loadAt T.api_Tag (.pointer v_1)) (fun (r_17 : Array Value) =>
  R (.agg r_17) h) h)) h)))))
def ref04_Maker_Draw.ann : Ann := (.seq .leaf (.seq (.seq .leaf (.cond (.seq .leaf .leaf) .leaf)) (.seq .leaf .leaf)))
theorem ref04_Maker_Draw.eq (m0 : Option Addr) (k1 : Int) (R : Value → Heap → Prop) (h : Heap) : ref04_Maker_Draw.body m0 k1 R h = evFn Try.prog Try.f37 ref04_Maker_Draw.ann [(.pointer m0), (.int .i64 k1)] R h := by kernel_rfl
theorem ref04_Maker_Draw.calls {m0 : Option Addr} {k1 : Int} {R : Value → Heap → Prop} {h : Heap} (H : ref04_Maker_Draw.body m0 k1 R h) : HC Try.prog F.ref04_Maker_Draw #[(.pointer m0), (.int .i64 k1)] R h :=
  evFn_sound mixed Try.func37 (by kernel_rfl) (ref04_Maker_Draw.eq m0 k1 R h ▸ H)

/-! zugzwang/zugzwanglaw04.meant -/
def law04_meant.body (m0 : Option Addr) (x1 : Array Value) (R : Value → Heap → Prop) (h : Heap) : Prop :=
  newK h x1 T.zugzwanglaw04_Ask (fun (x_1 : Option Addr) (h : Heap) =>
  newK h (zerosOf Try.prog T.api_Tag) T.api_Tag (fun (v_2 : Option Addr) (h : Heap) =>
  fldK x_1 0 (fun (a_3 : Addr) =>
  loadK (.int .i64) h ((some a_3)) (fun (v_4 : Int) =>
  callK Try.prog (.int .i64) F.kit_Pick #[(.int .i64 v_4), (.int .i64 3)] (fun (v_5 : Int) (h : Heap) =>
  if (v_5 == 0) = true then
  fldK x_1 2 (fun (a_6 : Addr) =>
  loadK .slice h ((some a_6)) (fun (v_7 : Sl) =>
  callK Try.prog .slice F.ref02_Join #[(.slice v_7.a v_7.n v_7.c)] (fun (v_8 : Sl) (h : Heap) =>
  callK Try.prog .agg F.ref04_Maker_Sum #[(.pointer m0), (.slice v_8.a v_8.n v_8.c)] (fun (v_9 : Array Value) (h : Heap) =>
  storeAggK (sizeOfT Try.prog T.api_Tag) h v_2 v_9 (fun (h : Heap) =>
  quietK Try.prog .agg (Instr.loadAt T.api_Tag (.pointer v_2)) (fun (r_10 : Array Value) =>
  R (.agg r_10) h) h)) h) h))
  else
  if (v_5 == 1) = true then
  fldK x_1 1 (fun (a_11 : Addr) =>
  fldK x_1 2 (fun (a_12 : Addr) =>
  loadK .slice h ((some a_11)) (fun (v_13 : Sl) =>
  loadK .slice h ((some a_12)) (fun (v_14 : Sl) =>
  callK Try.prog .slice F.ref02_Join #[(.slice v_14.a v_14.n v_14.c)] (fun (v_15 : Sl) (h : Heap) =>
  stillK .slice h ((some a_11)) v_13 ∧
  callK Try.prog .agg F.ref04_Maker_Mac #[(.pointer m0), (.slice v_13.a v_13.n v_13.c), (.slice v_15.a v_15.n v_15.c)] (fun (v_16 : Array Value) (h : Heap) =>
  storeAggK (sizeOfT Try.prog T.api_Tag) h v_2 v_16 (fun (h : Heap) =>
  quietK Try.prog .agg (Instr.loadAt T.api_Tag (.pointer v_2)) (fun (r_17 : Array Value) =>
  R (.agg r_17) h) h)) h) h))))
  else
  fldK x_1 3 (fun (a_18 : Addr) =>
  loadK (.int .i64) h ((some a_18)) (fun (v_19 : Int) =>
  callK Try.prog .agg F.ref04_Maker_Draw #[(.pointer m0), (.int .i64 v_19)] (fun (v_20 : Array Value) (h : Heap) =>
  storeAggK (sizeOfT Try.prog T.api_Tag) h v_2 v_20 (fun (h : Heap) =>
  quietK Try.prog .agg (Instr.loadAt T.api_Tag (.pointer v_2)) (fun (r_21 : Array Value) =>
  R (.agg r_21) h) h)) h))) h))))
def law04_meant.ann : Ann := (.seq .leaf (.seq (.seq .leaf (.block (.seq .leaf (.cond (.seq .leaf .leaf) (.seq .leaf (.cond (.seq (.any (.loc 0 (.loc 1 (.loc 3 (.st 2 192 (.st 4 224 (.last 5 (.last 6 (.last 7 .done))))))))) .leaf) .leaf)))))) (.seq .leaf .leaf)))
theorem law04_meant.eq (m0 : Option Addr) (x1 : Array Value) (R : Value → Heap → Prop) (h : Heap) : law04_meant.body m0 x1 R h = evFn Try.prog Try.f19 law04_meant.ann [(.pointer m0), (.agg x1)] R h := by kernel_rfl
theorem law04_meant.calls {m0 : Option Addr} {x1 : Array Value} {R : Value → Heap → Prop} {h : Heap} (H : law04_meant.body m0 x1 R h) : HC Try.prog F.law04_meant #[(.pointer m0), (.agg x1)] R h :=
  evFn_sound mixed Try.func19 (by kernel_rfl) (law04_meant.eq m0 x1 R h ▸ H)

/-! (*zugzwang/zugzwangref04.Maker).Told -/
def ref04_Maker_Told.body (m0 : Option Addr) (t1 : Array Value) (R : Value → Heap → Prop) (h : Heap) : Prop :=
  newK h t1 T.api_Tag (fun (t_1 : Option Addr) (h : Heap) =>
  loopW (fun X_3 (s_2 : Int) (h : Heap) =>
  derefK m0 (fun (a_4 : Addr) =>
  fldK ((some a_4)) 2 (fun (a_5 : Addr) =>
  loadK .slice h ((some a_5)) (fun (v_6 : Sl) =>
  if (decide (s_2 < ((v_6.n : Int)))) = true then
  loadAggK (sizeOfT Try.prog T.api_Tag) h t_1 (fun (v_7 : Array Value) =>
  callK Try.prog .agg F.ref04_Number #[(.int .i64 s_2)] (fun (v_8 : Array Value) (h : Heap) =>
  stillAggK (sizeOfT Try.prog T.api_Tag) h t_1 v_7 ∧
  eqK Try.prog (binSem .eql T.api_Tag (.tmp 16) (.tmp 17) (.agg v_8) (.agg v_7)) (fun (v_9 : Bool) =>
  if v_9 = true then
  R (.bool true) h
  else
  X_3 (IntKind.i64.wrap (s_2 + 1)) h)) h)
  else
  R (.bool false) h)))) 0 h)
def ref04_Maker_Told.ann : Ann := (.seq .leaf (.seq (.seq .leaf (.block (.loop [(5, (.int .i64))] (.seq (.seq .leaf (.cond .leaf .leaf)) (.seq (.block (.seq (.any (.loc 0 (.st 2 8 (.last 1 (.loc 3 .done))))) (.cond (.seq .leaf .leaf) .leaf))) .leaf))))) (.seq .leaf .leaf)))
theorem ref04_Maker_Told.eq (m0 : Option Addr) (t1 : Array Value) (R : Value → Heap → Prop) (h : Heap) : ref04_Maker_Told.body m0 t1 R h = evFn Try.prog Try.f20 ref04_Maker_Told.ann [(.pointer m0), (.agg t1)] R h := by kernel_rfl
theorem ref04_Maker_Told.calls {m0 : Option Addr} {t1 : Array Value} {R : Value → Heap → Prop} {h : Heap} (H : ref04_Maker_Told.body m0 t1 R h) : HC Try.prog F.ref04_Maker_Told #[(.pointer m0), (.agg t1)] R h :=
  evFn_sound mixed Try.func20 (by kernel_rfl) (ref04_Maker_Told.eq m0 t1 R h ▸ H)

/-! zugzwang/zugzwangkit.KeptBytes -/
def kit_KeptBytes.body (out0 : Sl) (l1 : Sl) (R : Value → Heap → Prop) (h : Heap) : Prop :=
  if (((out0.n : Int)) != ((l1.n : Int))) = true then
  R (.bool false) h
  else
  sliceK out0 none (some (IntKind.i64.wrap (((l1.n : Int)) + 12))) none (sizeOfT Try.prog T.uint8) (fun (v_1 : Sl) =>
  loopW (fun X_3 (s_2 : Int) (h : Heap) =>
  if (decide (s_2 < ((v_1.n : Int)))) = true then
  if (decide (s_2 < ((l1.n : Int)))) = true then
  idxK v_1 s_2 (sizeOfT Try.prog T.uint8) (fun (a_4 : Addr) =>
  loadK (.int .u8) h ((some a_4)) (fun (v_5 : Int) =>
  idxK l1 s_2 (sizeOfT Try.prog T.uint8) (fun (a_6 : Addr) =>
  loadK (.int .u8) h ((some a_6)) (fun (v_7 : Int) =>
  if (!(v_5 == v_7)) = true then
  R (.bool false) h
  else
  if (decide (s_2 ≥ ((l1.n : Int)))) = true then
  idxK v_1 s_2 (sizeOfT Try.prog T.uint8) (fun (a_8 : Addr) =>
  loadK (.int .u8) h ((some a_8)) (fun (v_9 : Int) =>
  callQ Try.prog (.int .u8) F.kit_markByte #[(.int .i64 1), (.int .i64 (IntKind.i64.wrap (s_2 - ((l1.n : Int)))))] (fun (v_10 : Int) =>
  if (!(v_9 == v_10)) = true then
  R (.bool false) h
  else
  X_3 (IntKind.i64.wrap (s_2 + 1)) h) h))
  else
  X_3 (IntKind.i64.wrap (s_2 + 1)) h))))
  else
  if (decide (s_2 ≥ ((l1.n : Int)))) = true then
  idxK v_1 s_2 (sizeOfT Try.prog T.uint8) (fun (a_11 : Addr) =>
  loadK (.int .u8) h ((some a_11)) (fun (v_12 : Int) =>
  callQ Try.prog (.int .u8) F.kit_markByte #[(.int .i64 1), (.int .i64 (IntKind.i64.wrap (s_2 - ((l1.n : Int)))))] (fun (v_13 : Int) =>
  if (!(v_12 == v_13)) = true then
  R (.bool false) h
  else
  X_3 (IntKind.i64.wrap (s_2 + 1)) h) h))
  else
  X_3 (IntKind.i64.wrap (s_2 + 1)) h
  else
  R (.bool true) h) 0 h)
def kit_KeptBytes.ann : Ann := (.seq .leaf (.seq (.seq .leaf (.cond (.seq .leaf .leaf) .leaf)) (.seq .leaf (.seq (.seq .leaf (.block (.loop [(6, (.int .i64))] (.seq (.seq .leaf (.cond .leaf .leaf)) (.seq (.block (.seq .leaf (.cond (.seq .leaf .leaf) .leaf))) .leaf))))) (.seq .leaf .leaf)))))
theorem kit_KeptBytes.eq (out0 : Sl) (l1 : Sl) (R : Value → Heap → Prop) (h : Heap) : kit_KeptBytes.body out0 l1 R h = evFn Try.prog Try.f21 kit_KeptBytes.ann [(.slice out0.a out0.n out0.c), (.slice l1.a l1.n l1.c)] R h := by kernel_rfl
theorem kit_KeptBytes.calls {out0 : Sl} {l1 : Sl} {R : Value → Heap → Prop} {h : Heap} (H : kit_KeptBytes.body out0 l1 R h) : HC Try.prog F.kit_KeptBytes #[(.slice out0.a out0.n out0.c), (.slice l1.a l1.n l1.c)] R h :=
  evFn_sound mixed Try.func21 (by kernel_rfl) (kit_KeptBytes.eq out0 l1 R h ▸ H)

/-! zugzwang/zugzwangref04.Mark -/
def ref04_Mark.body (b0 : Sl) (R : Value → Heap → Prop) (h : Heap) : Prop :=
  loopW (fun X_2 (s_1 : Int) (h : Heap) =>
  if (decide ((IntKind.i64.wrap (s_1 + 8)) ≤ ((b0.n : Int)))) = true then
  sliceK b0 (some s_1) (some (IntKind.i64.wrap (s_1 + 8))) none (sizeOfT Try.prog T.uint8) (fun (v_3 : Sl) =>
  opK Try.prog .str (convert T.sl_uint8 T.string (.slice v_3.a v_3.n v_3.c)) (fun (v_4 : ByteArray) (h : Heap) =>
  if (v_4.toList == ((⟨#[122, 117, 103, 122, 119, 97, 110, 103]⟩ : ByteArray)).toList) = true then
  R (.bool true) h
  else
  X_2 (IntKind.i64.wrap (s_1 + 1)) h) h)
  else
  R (.bool false) h) 0 h
def ref04_Mark.ann : Ann := (.seq .leaf (.seq .leaf (.seq (.seq .leaf (.block (.loop [(4, (.int .i64))] (.seq (.seq .leaf (.cond .leaf .leaf)) (.seq (.block (.seq .leaf (.cond (.seq .leaf .leaf) .leaf))) .leaf))))) (.seq .leaf .leaf))))
theorem ref04_Mark.eq (b0 : Sl) (R : Value → Heap → Prop) (h : Heap) : ref04_Mark.body b0 R h = evFn Try.prog Try.f23 ref04_Mark.ann [(.slice b0.a b0.n b0.c)] R h := by kernel_rfl
theorem ref04_Mark.calls {b0 : Sl} {R : Value → Heap → Prop} {h : Heap} (H : ref04_Mark.body b0 R h) : HC Try.prog F.ref04_Mark #[(.slice b0.a b0.n b0.c)] R h :=
  evFn_sound mixed Try.func23 (by kernel_rfl) (ref04_Mark.eq b0 R h ▸ H)

/-! zugzwang/zugzwanglaw04.TagsTell -/
def law04_TagsTell.body (real0 : Bool) (seed1 : Sl) (l2 : Sl) (t3 : Array Value) (R : Value → Heap → Prop) (h : Heap) : Prop :=
  newK h t3 T.api_Tag (fun (t_1 : Option Addr) (h : Heap) =>
  callK Try.prog (.int .i64) F.law04_size #[(.slice l2.a l2.n l2.c)] (fun (v_2 : Int) (h : Heap) =>
  if (decide ((IntKind.i64.wrap (v_2 + ((seed1.n : Int)))) > 400)) = true then
  callK Try.prog .bool F.law04_awake #[] (fun (v_3 : Bool) (h : Heap) =>
  R (.bool v_3) h) h
  else
  callK Try.prog .slice F.kit_LentBytes #[(.slice seed1.a seed1.n seed1.c)] (fun (v_4 : Sl) (h : Heap) =>
  callK Try.prog .ptr F.tags_New #[(.bool real0), (.slice v_4.a v_4.n v_4.c)] (fun (v_5 : Option Addr) (h : Heap) =>
  buildK Try.prog (Instr.build T.zugzwangref04_Maker #[(0, (.bool real0)), (1, (.slice seed1.a seed1.n seed1.c))]) (fun (v_6 : Array Value) =>
  newK h v_6 T.zugzwangref04_Maker (fun (v_7 : Option Addr) (h : Heap) =>
  callK Try.prog .unit F.kit_OverBytes #[(.slice v_4.a v_4.n v_4.c)] (fun (v_8 : Unit) (h : Heap) =>
  loopW (fun X_10 (s_9 : Int) (h : Heap) =>
  if (decide (s_9 < ((l2.n : Int)))) = true then
  idxK l2 s_9 (sizeOfT Try.prog T.zugzwanglaw04_Ask) (fun (a_11 : Addr) =>
  loadAggK (sizeOfT Try.prog T.zugzwanglaw04_Ask) h ((some a_11)) (fun (v_12 : Array Value) =>
  newK h (zerosOf Try.prog T.zugzwanglaw04_Ask) T.zugzwanglaw04_Ask (fun (in_13 : Option Addr) (h : Heap) =>
  storeAggK (sizeOfT Try.prog T.zugzwanglaw04_Ask) h in_13 v_12 (fun (h : Heap) =>
  idxK l2 s_9 (sizeOfT Try.prog T.zugzwanglaw04_Ask) (fun (a_14 : Addr) =>
  fldK ((some a_14)) 1 (fun (a_15 : Addr) =>
  loadK .slice h ((some a_15)) (fun (v_16 : Sl) =>
  callK Try.prog .slice F.kit_LentBytes #[(.slice v_16.a v_16.n v_16.c)] (fun (v_17 : Sl) (h : Heap) =>
  fldK in_13 1 (fun (a_18 : Addr) =>
  storeK h ((some a_18)) (.slice v_17.a v_17.n v_17.c) (fun (h : Heap) =>
  fldK in_13 2 (fun (a_19 : Addr) =>
  storeK h ((some a_19)) (.slice none 0 0) (fun (h : Heap) =>
  loopW (fun X_21 (s_20 : Int) (h : Heap) =>
  idxK l2 s_9 (sizeOfT Try.prog T.zugzwanglaw04_Ask) (fun (a_22 : Addr) =>
  fldK ((some a_22)) 2 (fun (a_23 : Addr) =>
  loadK .slice h ((some a_23)) (fun (v_24 : Sl) =>
  if (decide (s_20 < ((v_24.n : Int)))) = true then
  fldK in_13 2 (fun (a_25 : Addr) =>
  idxK l2 s_9 (sizeOfT Try.prog T.zugzwanglaw04_Ask) (fun (a_26 : Addr) =>
  fldK ((some a_26)) 2 (fun (a_27 : Addr) =>
  loadK .slice h ((some a_25)) (fun (v_28 : Sl) =>
  loadK .slice h ((some a_27)) (fun (v_29 : Sl) =>
  idxK v_29 s_20 (sizeOfT Try.prog T.sl_uint8) (fun (a_30 : Addr) =>
  loadK .slice h ((some a_30)) (fun (v_31 : Sl) =>
  callK Try.prog .slice F.kit_LentBytes #[(.slice v_31.a v_31.n v_31.c)] (fun (v_32 : Sl) (h : Heap) =>
  stillK .slice h ((some a_25)) v_28 ∧
  newSlK h 1 #[(.slice v_32.a v_32.n v_32.c)] T.sl_uint8 (fun (v_33 : Sl) (h : Heap) =>
  opK Try.prog .slice (Builtin.append_ #[T.sl_sl_uint8, T.sl_sl_uint8] T.sl_sl_uint8 #[(.slice v_28.a v_28.n v_28.c), (.slice v_33.a v_33.n v_33.c)]) (fun (v_34 : Sl) (h : Heap) =>
  fldK in_13 2 (fun (a_35 : Addr) =>
  storeK h ((some a_35)) (.slice v_34.a v_34.n v_34.c) (fun (h : Heap) =>
  X_21 (IntKind.i64.wrap (s_20 + 1)) h))) h)) h)))))))
  else
  joinW (fun (s_36 : Option Addr × Option Addr) (h : Heap) =>
  loadAggK (sizeOfT Try.prog T.api_Tag) h s_36.1 (fun (v_37 : Array Value) =>
  loadAggK (sizeOfT Try.prog T.api_Tag) h s_36.2 (fun (v_38 : Array Value) =>
  eqK Try.prog (binSem .neq T.api_Tag (.tmp 87) (.tmp 88) (.agg v_37) (.agg v_38)) (fun (v_39 : Bool) =>
  if v_39 = true then
  R (.bool false) h
  else
  derefK v_7 (fun (a_40 : Addr) =>
  fldK ((some a_40)) 2 (fun (a_41 : Addr) =>
  loadK .slice h ((some a_41)) (fun (v_42 : Sl) =>
  callK Try.prog (.int .i64) F.tags_Maker_Len #[(.pointer v_5)] (fun (v_43 : Int) (h : Heap) =>
  stillK .slice h ((some a_41)) v_42 ∧
  if (v_43 != ((v_42.n : Int))) = true then
  R (.bool false) h
  else
  loadAggK (sizeOfT Try.prog T.api_Tag) h s_36.1 (fun (v_44 : Array Value) =>
  loadAggK (sizeOfT Try.prog T.api_Tag) h s_36.1 (fun (v_45 : Array Value) =>
  callK Try.prog .bool F.tags_Maker_Told #[(.pointer v_5), (.agg v_44)] (fun (v_46 : Bool) (h : Heap) =>
  stillAggK (sizeOfT Try.prog T.api_Tag) h s_36.1 v_45 ∧
  callK Try.prog .bool F.ref04_Maker_Told #[(.pointer v_7), (.agg v_45)] (fun (v_47 : Bool) (h : Heap) =>
  if (!(v_46 == v_47)) = true then
  R (.bool false) h
  else
  loadAggK (sizeOfT Try.prog T.api_Tag) h t_1 (fun (v_48 : Array Value) =>
  loadAggK (sizeOfT Try.prog T.api_Tag) h t_1 (fun (v_49 : Array Value) =>
  callK Try.prog .bool F.tags_Maker_Told #[(.pointer v_5), (.agg v_48)] (fun (v_50 : Bool) (h : Heap) =>
  stillAggK (sizeOfT Try.prog T.api_Tag) h t_1 v_49 ∧
  callK Try.prog .bool F.ref04_Maker_Told #[(.pointer v_7), (.agg v_49)] (fun (v_51 : Bool) (h : Heap) =>
  if (!(v_50 == v_51)) = true then
  R (.bool false) h
  else
  callK Try.prog .bool F.tags_Maker_Real #[(.pointer v_5)] (fun (v_52 : Bool) (h : Heap) =>
  if (!(v_52 == real0)) = true then
  R (.bool false) h
  else
  fldK in_13 1 (fun (a_53 : Addr) =>
  idxK l2 s_9 (sizeOfT Try.prog T.zugzwanglaw04_Ask) (fun (a_54 : Addr) =>
  fldK ((some a_54)) 1 (fun (a_55 : Addr) =>
  loadK .slice h ((some a_53)) (fun (v_56 : Sl) =>
  loadK .slice h ((some a_55)) (fun (v_57 : Sl) =>
  callK Try.prog .bool F.kit_KeptBytes #[(.slice v_56.a v_56.n v_56.c), (.slice v_57.a v_57.n v_57.c)] (fun (v_58 : Bool) (h : Heap) =>
  if (!v_58) = true then
  R (.bool false) h
  else
  fldK in_13 1 (fun (a_59 : Addr) =>
  loadK .slice h ((some a_59)) (fun (v_60 : Sl) =>
  callK Try.prog .unit F.kit_OverBytes #[(.slice v_60.a v_60.n v_60.c)] (fun (v_61 : Unit) (h : Heap) =>
  loopW (fun X_63 (s_62 : Int) (h : Heap) =>
  idxK l2 s_9 (sizeOfT Try.prog T.zugzwanglaw04_Ask) (fun (a_64 : Addr) =>
  fldK ((some a_64)) 2 (fun (a_65 : Addr) =>
  loadK .slice h ((some a_65)) (fun (v_66 : Sl) =>
  if (decide (s_62 < ((v_66.n : Int)))) = true then
  fldK in_13 2 (fun (a_67 : Addr) =>
  idxK l2 s_9 (sizeOfT Try.prog T.zugzwanglaw04_Ask) (fun (a_68 : Addr) =>
  fldK ((some a_68)) 2 (fun (a_69 : Addr) =>
  loadK .slice h ((some a_67)) (fun (v_70 : Sl) =>
  idxK v_70 s_62 (sizeOfT Try.prog T.sl_uint8) (fun (a_71 : Addr) =>
  loadK .slice h ((some a_71)) (fun (v_72 : Sl) =>
  loadK .slice h ((some a_69)) (fun (v_73 : Sl) =>
  idxK v_73 s_62 (sizeOfT Try.prog T.sl_uint8) (fun (a_74 : Addr) =>
  loadK .slice h ((some a_74)) (fun (v_75 : Sl) =>
  callK Try.prog .bool F.kit_KeptBytes #[(.slice v_72.a v_72.n v_72.c), (.slice v_75.a v_75.n v_75.c)] (fun (v_76 : Bool) (h : Heap) =>
  if (!v_76) = true then
  R (.bool false) h
  else
  idxK l2 s_9 (sizeOfT Try.prog T.zugzwanglaw04_Ask) (fun (a_77 : Addr) =>
  fldK ((some a_77)) 2 (fun (a_78 : Addr) =>
  idxK l2 s_9 (sizeOfT Try.prog T.zugzwanglaw04_Ask) (fun (a_79 : Addr) =>
  fldK ((some a_79)) 2 (fun (a_80 : Addr) =>
  loadK .slice h ((some a_78)) (fun (v_81 : Sl) =>
  idxK v_81 s_62 (sizeOfT Try.prog T.sl_uint8) (fun (a_82 : Addr) =>
  loadK .slice h ((some a_82)) (fun (v_83 : Sl) =>
  loadK .slice h ((some a_80)) (fun (v_84 : Sl) =>
  idxK v_84 s_62 (sizeOfT Try.prog T.sl_uint8) (fun (a_85 : Addr) =>
  loadK .slice h ((some a_85)) (fun (v_86 : Sl) =>
  callK Try.prog .bool F.tags_Mark #[(.slice v_83.a v_83.n v_83.c)] (fun (v_87 : Bool) (h : Heap) =>
  stillK .slice h ((some a_85)) v_86 ∧
  stillK .slice h ((some a_80)) v_84 ∧
  callK Try.prog .bool F.ref04_Mark #[(.slice v_86.a v_86.n v_86.c)] (fun (v_88 : Bool) (h : Heap) =>
  if (!(v_87 == v_88)) = true then
  R (.bool false) h
  else
  fldK in_13 2 (fun (a_89 : Addr) =>
  loadK .slice h ((some a_89)) (fun (v_90 : Sl) =>
  idxK v_90 s_62 (sizeOfT Try.prog T.sl_uint8) (fun (a_91 : Addr) =>
  loadK .slice h ((some a_91)) (fun (v_92 : Sl) =>
  callK Try.prog .unit F.kit_OverBytes #[(.slice v_92.a v_92.n v_92.c)] (fun (v_93 : Unit) (h : Heap) =>
  X_63 (IntKind.i64.wrap (s_62 + 1)) h) h))))) h) h))))))))))) h)))))))))
  else
  X_10 (IntKind.i64.wrap (s_9 + 1)) h)))) 0 h) h))) h)))))) h) h) h))) h) h))) h)))))))
  (fun J_94 =>
  idxK l2 s_9 (sizeOfT Try.prog T.zugzwanglaw04_Ask) (fun (a_95 : Addr) =>
  loadAggK (sizeOfT Try.prog T.zugzwanglaw04_Ask) h in_13 (fun (v_96 : Array Value) =>
  loadAggK (sizeOfT Try.prog T.zugzwanglaw04_Ask) h ((some a_95)) (fun (v_97 : Array Value) =>
  ((callK Try.prog .agg F.law04_told #[(.pointer v_5), (.agg v_96)] (fun (v_98 : Array Value) (h : Heap) =>
  stillAggK (sizeOfT Try.prog T.zugzwanglaw04_Ask) h ((some a_95)) v_97 ∧
  ((callK Try.prog .agg F.law04_meant #[(.pointer v_7), (.agg v_97)] (fun (v_99 : Array Value) (h : Heap) =>
  ((newK h (zerosOf Try.prog T.api_Tag) T.api_Tag (fun (a_100 : Option Addr) (h : Heap) =>
  newK h (zerosOf Try.prog T.api_Tag) T.api_Tag (fun (b_101 : Option Addr) (h : Heap) =>
  storeAggK (sizeOfT Try.prog T.api_Tag) h a_100 v_98 (fun (h : Heap) =>
  storeAggK (sizeOfT Try.prog T.api_Tag) h b_101 v_99 (fun (h : Heap) =>
  J_94 (a_100, b_101) h))))) ∧
  (newK h (zerosOf Try.prog T.api_Tag) T.api_Tag (fun (b_102 : Option Addr) (h : Heap) =>
  newK h (zerosOf Try.prog T.api_Tag) T.api_Tag (fun (a_103 : Option Addr) (h : Heap) =>
  storeAggK (sizeOfT Try.prog T.api_Tag) h a_103 v_98 (fun (h : Heap) =>
  storeAggK (sizeOfT Try.prog T.api_Tag) h b_102 v_99 (fun (h : Heap) =>
  J_94 (a_103, b_102) h))))))) h) ∧
  (((newK h (zerosOf Try.prog T.api_Tag) T.api_Tag (fun (a_104 : Option Addr) (h : Heap) =>
  ((callK Try.prog .agg F.law04_meant #[(.pointer v_7), (.agg v_97)] (fun (v_105 : Array Value) (h : Heap) =>
  newK h (zerosOf Try.prog T.api_Tag) T.api_Tag (fun (b_106 : Option Addr) (h : Heap) =>
  storeAggK (sizeOfT Try.prog T.api_Tag) h a_104 v_98 (fun (h : Heap) =>
  storeAggK (sizeOfT Try.prog T.api_Tag) h b_106 v_105 (fun (h : Heap) =>
  J_94 (a_104, b_106) h)))) h) ∧
  (newK h (zerosOf Try.prog T.api_Tag) T.api_Tag (fun (b_107 : Option Addr) (h : Heap) =>
  callK Try.prog .agg F.law04_meant #[(.pointer v_7), (.agg v_97)] (fun (v_108 : Array Value) (h : Heap) =>
  storeAggK (sizeOfT Try.prog T.api_Tag) h a_104 v_98 (fun (h : Heap) =>
  storeAggK (sizeOfT Try.prog T.api_Tag) h b_107 v_108 (fun (h : Heap) =>
  J_94 (a_104, b_107) h))) h))))) ∧
  (newK h (zerosOf Try.prog T.api_Tag) T.api_Tag (fun (b_109 : Option Addr) (h : Heap) =>
  ((callK Try.prog .agg F.law04_meant #[(.pointer v_7), (.agg v_97)] (fun (v_110 : Array Value) (h : Heap) =>
  newK h (zerosOf Try.prog T.api_Tag) T.api_Tag (fun (a_111 : Option Addr) (h : Heap) =>
  storeAggK (sizeOfT Try.prog T.api_Tag) h a_111 v_98 (fun (h : Heap) =>
  storeAggK (sizeOfT Try.prog T.api_Tag) h b_109 v_110 (fun (h : Heap) =>
  J_94 (a_111, b_109) h)))) h) ∧
  (newK h (zerosOf Try.prog T.api_Tag) T.api_Tag (fun (a_112 : Option Addr) (h : Heap) =>
  callK Try.prog .agg F.law04_meant #[(.pointer v_7), (.agg v_97)] (fun (v_113 : Array Value) (h : Heap) =>
  storeAggK (sizeOfT Try.prog T.api_Tag) h a_112 v_98 (fun (h : Heap) =>
  storeAggK (sizeOfT Try.prog T.api_Tag) h b_109 v_113 (fun (h : Heap) =>
  J_94 (a_112, b_109) h))) h))))))))) h) ∧
  (((newK h (zerosOf Try.prog T.api_Tag) T.api_Tag (fun (a_114 : Option Addr) (h : Heap) =>
  ((callK Try.prog .agg F.law04_told #[(.pointer v_5), (.agg v_96)] (fun (v_115 : Array Value) (h : Heap) =>
  stillAggK (sizeOfT Try.prog T.zugzwanglaw04_Ask) h ((some a_95)) v_97 ∧
  ((callK Try.prog .agg F.law04_meant #[(.pointer v_7), (.agg v_97)] (fun (v_116 : Array Value) (h : Heap) =>
  newK h (zerosOf Try.prog T.api_Tag) T.api_Tag (fun (b_117 : Option Addr) (h : Heap) =>
  storeAggK (sizeOfT Try.prog T.api_Tag) h a_114 v_115 (fun (h : Heap) =>
  storeAggK (sizeOfT Try.prog T.api_Tag) h b_117 v_116 (fun (h : Heap) =>
  J_94 (a_114, b_117) h)))) h) ∧
  (newK h (zerosOf Try.prog T.api_Tag) T.api_Tag (fun (b_118 : Option Addr) (h : Heap) =>
  callK Try.prog .agg F.law04_meant #[(.pointer v_7), (.agg v_97)] (fun (v_119 : Array Value) (h : Heap) =>
  storeAggK (sizeOfT Try.prog T.api_Tag) h a_114 v_115 (fun (h : Heap) =>
  storeAggK (sizeOfT Try.prog T.api_Tag) h b_118 v_119 (fun (h : Heap) =>
  J_94 (a_114, b_118) h))) h)))) h) ∧
  (newK h (zerosOf Try.prog T.api_Tag) T.api_Tag (fun (b_120 : Option Addr) (h : Heap) =>
  callK Try.prog .agg F.law04_told #[(.pointer v_5), (.agg v_96)] (fun (v_121 : Array Value) (h : Heap) =>
  stillAggK (sizeOfT Try.prog T.zugzwanglaw04_Ask) h ((some a_95)) v_97 ∧
  callK Try.prog .agg F.law04_meant #[(.pointer v_7), (.agg v_97)] (fun (v_122 : Array Value) (h : Heap) =>
  storeAggK (sizeOfT Try.prog T.api_Tag) h a_114 v_121 (fun (h : Heap) =>
  storeAggK (sizeOfT Try.prog T.api_Tag) h b_120 v_122 (fun (h : Heap) =>
  J_94 (a_114, b_120) h))) h) h))))) ∧
  (newK h (zerosOf Try.prog T.api_Tag) T.api_Tag (fun (b_123 : Option Addr) (h : Heap) =>
  ((callK Try.prog .agg F.law04_told #[(.pointer v_5), (.agg v_96)] (fun (v_124 : Array Value) (h : Heap) =>
  stillAggK (sizeOfT Try.prog T.zugzwanglaw04_Ask) h ((some a_95)) v_97 ∧
  ((callK Try.prog .agg F.law04_meant #[(.pointer v_7), (.agg v_97)] (fun (v_125 : Array Value) (h : Heap) =>
  newK h (zerosOf Try.prog T.api_Tag) T.api_Tag (fun (a_126 : Option Addr) (h : Heap) =>
  storeAggK (sizeOfT Try.prog T.api_Tag) h a_126 v_124 (fun (h : Heap) =>
  storeAggK (sizeOfT Try.prog T.api_Tag) h b_123 v_125 (fun (h : Heap) =>
  J_94 (a_126, b_123) h)))) h) ∧
  (newK h (zerosOf Try.prog T.api_Tag) T.api_Tag (fun (a_127 : Option Addr) (h : Heap) =>
  callK Try.prog .agg F.law04_meant #[(.pointer v_7), (.agg v_97)] (fun (v_128 : Array Value) (h : Heap) =>
  storeAggK (sizeOfT Try.prog T.api_Tag) h a_127 v_124 (fun (h : Heap) =>
  storeAggK (sizeOfT Try.prog T.api_Tag) h b_123 v_128 (fun (h : Heap) =>
  J_94 (a_127, b_123) h))) h)))) h) ∧
  (newK h (zerosOf Try.prog T.api_Tag) T.api_Tag (fun (a_129 : Option Addr) (h : Heap) =>
  callK Try.prog .agg F.law04_told #[(.pointer v_5), (.agg v_96)] (fun (v_130 : Array Value) (h : Heap) =>
  stillAggK (sizeOfT Try.prog T.zugzwanglaw04_Ask) h ((some a_95)) v_97 ∧
  callK Try.prog .agg F.law04_meant #[(.pointer v_7), (.agg v_97)] (fun (v_131 : Array Value) (h : Heap) =>
  storeAggK (sizeOfT Try.prog T.api_Tag) h a_129 v_130 (fun (h : Heap) =>
  storeAggK (sizeOfT Try.prog T.api_Tag) h b_123 v_131 (fun (h : Heap) =>
  J_94 (a_129, b_123) h))) h) h)))))))))))))))) 0 h))))) h)))))))
  else
  callK Try.prog .bool F.tags_Mark #[(.slice seed1.a seed1.n seed1.c)] (fun (v_132 : Bool) (h : Heap) =>
  callK Try.prog .bool F.ref04_Mark #[(.slice seed1.a seed1.n seed1.c)] (fun (v_133 : Bool) (h : Heap) =>
  if (v_132 == v_133) = true then
  callK Try.prog .bool F.law04_awake #[] (fun (v_134 : Bool) (h : Heap) =>
  R (.bool v_134) h) h
  else
  R (.bool false) h) h) h) 0 h) h))) h) h) h)
def law04_TagsTell.ann : Ann := (.seq .leaf (.seq (.seq .leaf (.cond (.seq .leaf .leaf) .leaf)) (.seq .leaf (.seq .leaf (.seq .leaf (.seq (.seq .leaf (.block (.loop [(12, (.int .i64))] (.seq (.seq .leaf (.cond .leaf .leaf)) (.seq (.block (.seq .leaf (.seq .leaf (.seq .leaf (.seq (.seq .leaf (.block (.loop [(14, (.int .i64))] (.seq (.seq .leaf (.cond .leaf .leaf)) (.seq (.block (.any (.loc 0 (.loc 2 (.loc 3 (.loc 4 (.loc 5 (.loc 7 (.st 1 28672 (.st 6 32512 (.loc 8 (.st 9 31744 (.last 10 (.last 11 (.last 12 (.loc 13 (.last 14 .done))))))))))))))))) .leaf))))) (.join [(15, .ptr), (16, .ptr)] (.any (.loc 0 (.loc 3 (.loc 4 (.loc 5 (.loc 6 (.st 1 6404 (.st 7 6400 (.alt 2 (.alt 8 (.alt 9 (.last 10 (.last 11 (.last 12 .done))) (.last 10 (.last 9 (.last 11 (.last 12 .done))))) (.alt 9 (.alt 8 (.last 10 (.last 11 (.last 12 .done))) (.last 10 (.last 8 (.last 11 (.last 12 .done))))) (.last 10 (.alt 8 (.last 9 (.last 11 (.last 12 .done))) (.last 9 (.last 8 (.last 11 (.last 12 .done)))))))) (.alt 9 (.alt 2 (.alt 8 (.last 10 (.last 11 (.last 12 .done))) (.last 10 (.last 8 (.last 11 (.last 12 .done))))) (.last 10 (.last 2 (.last 8 (.last 11 (.last 12 .done)))))) (.last 10 (.alt 2 (.alt 8 (.last 9 (.last 11 (.last 12 .done))) (.last 9 (.last 8 (.last 11 (.last 12 .done))))) (.last 9 (.last 2 (.last 8 (.last 11 (.last 12 .done))))))))))))))))) (.seq (.seq (.any (.st 0 281474976710652 (.st 1 281474976710652 (.loc 2 (.loc 3 (.locA 4 (.loc 5 (.loc 6 (.loc 7 (.loc 8 (.loc 9 (.loc 10 (.loc 11 (.loc 12 (.loc 13 (.loc 14 (.loc 15 (.loc 16 (.loc 17 (.loc 18 (.loc 19 (.loc 20 (.loc 21 (.loc 22 (.loc 23 (.loc 24 (.loc 25 (.loc 26 (.loc 27 (.loc 28 (.loc 29 (.loc 30 (.loc 31 (.loc 32 (.loc 33 (.loc 34 (.loc 35 (.loc 36 (.loc 37 (.loc 38 (.loc 39 (.loc 40 (.loc 41 (.loc 42 (.loc 43 (.loc 44 (.loc 45 (.loc 46 (.loc 47 .done))))))))))))))))))))))))))))))))))))))))))) (.loc 6 (.loc 7 (.loc 8 (.st 9 281474976709632 (.loc 10 (.last 5 (.loc 11 (.loc 12 (.loc 13 (.locA 14 (.loc 15 (.loc 16 (.loc 17 (.loc 18 (.loc 19 (.loc 20 (.loc 21 (.loc 22 (.loc 23 (.loc 24 (.loc 25 (.loc 26 (.loc 27 (.loc 28 (.loc 29 (.loc 30 (.loc 31 (.loc 32 (.loc 33 (.loc 34 (.loc 35 (.loc 36 (.loc 37 (.loc 38 (.loc 39 (.loc 40 (.loc 41 (.loc 42 (.loc 43 (.loc 44 (.loc 45 (.loc 46 (.loc 47 .done))))))))))))))))))))))))))))))))) (.loc 17 (.st 15 281474976251904 (.st 18 281474976186368 (.last 16 (.last 19 (.loc 20 (.loc 21 (.loc 22 (.locA 23 (.loc 24 (.loc 25 (.loc 26 (.loc 27 (.loc 28 (.loc 29 (.loc 30 (.loc 31 (.loc 32 (.loc 33 (.loc 34 (.loc 35 (.loc 36 (.loc 37 (.loc 38 (.loc 39 (.loc 40 (.loc 41 (.loc 42 (.loc 43 (.loc 44 (.loc 45 (.loc 46 (.loc 47 .done)))))))))))))))))))))))) (.loc 26 (.st 24 281474741829632 (.st 27 281474708275200 (.last 25 (.last 28 (.loc 29 (.loc 30 (.loc 31 (.locA 32 (.loc 33 (.loc 34 (.loc 35 (.loc 36 (.loc 37 (.loc 38 (.loc 39 (.loc 40 (.loc 41 (.loc 42 (.loc 43 (.loc 44 (.loc 45 (.loc 46 (.loc 47 .done))))))))))))))) (.loc 34 (.last 33 (.loc 35 (.loc 36 (.loc 37 (.locA 38 (.loc 39 (.loc 40 (.loc 41 (.loc 42 (.loc 43 (.loc 44 (.loc 45 (.loc 46 (.loc 47 .done))))))))) (.loc 40 (.loc 41 (.loc 42 (.loc 43 (.st 39 246290604621824 (.st 44 246290604621824 (.last 45 (.loc 46 (.loc 47 .done))))))))))))))))))))))))))))))))))))))))))))))))) (.cond (.seq .leaf .leaf) .leaf)) (.seq .leaf (.seq .leaf (.block (.loop [(17, (.int .i64))] (.seq (.seq .leaf (.cond .leaf .leaf)) (.seq (.block (.seq (.seq (.any (.loc 0 (.loc 2 (.loc 5 (.loc 6 (.loc 7 (.loc 8 (.loc 10 (.st 1 68719468568 (.loc 3 (.st 4 68719468544 (.st 9 68719474688 (.loc 11 (.st 12 68719468544 (.last 13 (.loc 14 (.loc 15 (.locA 16 (.loc 17 (.loc 18 (.loc 19 (.loc 20 (.loc 21 (.loc 22 (.loc 23 (.loc 24 (.loc 25 (.loc 26 (.loc 27 (.loc 28 (.loc 29 (.loc 30 (.loc 31 (.loc 32 (.loc 33 (.loc 34 (.loc 35 .done))))))))))))))))))) (.loc 17 (.loc 18 (.loc 19 (.loc 21 (.loc 25 (.loc 26 (.loc 27 (.loc 28 (.loc 30 (.st 20 60158902272 (.loc 22 (.st 23 60146319360 (.st 29 66571993088 (.loc 31 (.st 32 60129542144 (.last 24 (.last 33 (.loc 34 (.loc 35 .done))))))))))))))))))))))))))))))))))))) (.cond (.seq .leaf .leaf) .leaf)) .leaf)) .leaf))))))))))))) .leaf))))) (.seq .leaf .leaf)))))))
theorem law04_TagsTell.eq (real0 : Bool) (seed1 : Sl) (l2 : Sl) (t3 : Array Value) (R : Value → Heap → Prop) (h : Heap) : law04_TagsTell.body real0 seed1 l2 t3 R h = evFn Try.prog Try.f4 law04_TagsTell.ann [(.bool real0), (.slice seed1.a seed1.n seed1.c), (.slice l2.a l2.n l2.c), (.agg t3)] R h := by kernel_rfl
theorem law04_TagsTell.calls {real0 : Bool} {seed1 : Sl} {l2 : Sl} {t3 : Array Value} {R : Value → Heap → Prop} {h : Heap} (H : law04_TagsTell.body real0 seed1 l2 t3 R h) : HC Try.prog F.law04_TagsTell #[(.bool real0), (.slice seed1.a seed1.n seed1.c), (.slice l2.a l2.n l2.c), (.agg t3)] R h :=
  evFn_sound mixed Try.func4 (by kernel_rfl) (law04_TagsTell.eq real0 seed1 l2 t3 R h ▸ H)

/-! zugzwang/zugzwanglaw04.none -/
def law04_none.body  (R : Value → Heap → Prop) (h : Heap) : Prop :=
  buildK Try.prog (Instr.build T.tags_Maker #[]) (fun (v_1 : Array Value) =>
  newK h v_1 T.tags_Maker (fun (v_2 : Option Addr) (h : Heap) =>
  newSlK h 2 #[(.pointer none), (.pointer v_2)] T.p_tags_Maker (fun (v_3 : Sl) (h : Heap) =>
  loopW (fun X_5 (s_4 : Int) (h : Heap) =>
  if (decide (s_4 < 2)) = true then
  idxK v_3 s_4 (sizeOfT Try.prog T.p_tags_Maker) (fun (a_6 : Addr) =>
  loadK .ptr h ((some a_6)) (fun (v_7 : Option Addr) =>
  callK Try.prog .agg F.tags_Maker_Sum #[(.pointer v_7), (.slice none 0 0)] (fun (v_8 : Array Value) (h : Heap) =>
  buildK Try.prog (Instr.build T.api_Tag #[]) (fun (v_9 : Array Value) =>
  eqK Try.prog (binSem .neq T.api_Tag (.tmp 14) (.tmp 15) (.agg v_8) (.agg v_9)) (fun (v_10 : Bool) =>
  if v_10 = true then
  R (.bool false) h
  else
  idxK v_3 s_4 (sizeOfT Try.prog T.p_tags_Maker) (fun (a_11 : Addr) =>
  loadK .ptr h ((some a_11)) (fun (v_12 : Option Addr) =>
  callK Try.prog .agg F.tags_Maker_Mac #[(.pointer v_12), (.slice none 0 0), (.slice none 0 0)] (fun (v_13 : Array Value) (h : Heap) =>
  buildK Try.prog (Instr.build T.api_Tag #[]) (fun (v_14 : Array Value) =>
  eqK Try.prog (binSem .neq T.api_Tag (.tmp 22) (.tmp 23) (.agg v_13) (.agg v_14)) (fun (v_15 : Bool) =>
  if v_15 = true then
  R (.bool false) h
  else
  idxK v_3 s_4 (sizeOfT Try.prog T.p_tags_Maker) (fun (a_16 : Addr) =>
  loadK .ptr h ((some a_16)) (fun (v_17 : Option Addr) =>
  callK Try.prog .agg F.tags_Maker_Draw #[(.pointer v_17), (.int .i64 3)] (fun (v_18 : Array Value) (h : Heap) =>
  buildK Try.prog (Instr.build T.api_Tag #[]) (fun (v_19 : Array Value) =>
  eqK Try.prog (binSem .neq T.api_Tag (.tmp 31) (.tmp 32) (.agg v_18) (.agg v_19)) (fun (v_20 : Bool) =>
  if v_20 = true then
  R (.bool false) h
  else
  idxK v_3 s_4 (sizeOfT Try.prog T.p_tags_Maker) (fun (a_21 : Addr) =>
  loadK .ptr h ((some a_21)) (fun (v_22 : Option Addr) =>
  callK Try.prog .bool F.tags_Maker_Real #[(.pointer v_22)] (fun (v_23 : Bool) (h : Heap) =>
  if v_23 = true then
  R (.bool false) h
  else
  idxK v_3 s_4 (sizeOfT Try.prog T.p_tags_Maker) (fun (a_24 : Addr) =>
  loadK .ptr h ((some a_24)) (fun (v_25 : Option Addr) =>
  callK Try.prog (.int .i64) F.tags_Maker_Len #[(.pointer v_25)] (fun (v_26 : Int) (h : Heap) =>
  if (v_26 != 0) = true then
  R (.bool false) h
  else
  idxK v_3 s_4 (sizeOfT Try.prog T.p_tags_Maker) (fun (a_27 : Addr) =>
  loadK .ptr h ((some a_27)) (fun (v_28 : Option Addr) =>
  buildK Try.prog (Instr.build T.api_Tag #[]) (fun (v_29 : Array Value) =>
  callK Try.prog .bool F.tags_Maker_Told #[(.pointer v_28), (.agg v_29)] (fun (v_30 : Bool) (h : Heap) =>
  if v_30 = true then
  R (.bool false) h
  else
  idxK v_3 s_4 (sizeOfT Try.prog T.p_tags_Maker) (fun (a_31 : Addr) =>
  loadK .ptr h ((some a_31)) (fun (v_32 : Option Addr) =>
  callK Try.prog .ptr F.tags_Maker_Copy #[(.pointer v_32)] (fun (v_33 : Option Addr) (h : Heap) =>
  if (!v_33.isNone) = true then
  R (.bool false) h
  else
  X_5 (IntKind.i64.wrap (s_4 + 1)) h) h))) h)))) h))) h))))) h))))) h))))) h))
  else
  R (.bool true) h) 0 h)))
def law04_none.ann : Ann := (.seq .leaf (.seq .leaf (.seq (.seq .leaf (.block (.loop [(2, (.int .i64))] (.seq (.seq .leaf (.cond .leaf .leaf)) (.seq (.block (.seq .leaf (.cond (.seq .leaf .leaf) .leaf))) .leaf))))) (.seq .leaf .leaf))))
theorem law04_none.eq  (R : Value → Heap → Prop) (h : Heap) : law04_none.body  R h = evFn Try.prog Try.f25 law04_none.ann [] R h := by kernel_rfl
theorem law04_none.calls  {R : Value → Heap → Prop} {h : Heap} (H : law04_none.body  R h) : HC Try.prog F.law04_none #[] R h :=
  evFn_sound mixed Try.func25 (by kernel_rfl) (law04_none.eq  R h ▸ H)

/-! zugzwang/zugzwanglaw04.TagsEnds -/
def law04_TagsEnds.body  (R : Value → Heap → Prop) (h : Heap) : Prop :=
  newSlK h 3 #[(.int .u8 97), (.int .u8 98), (.int .u8 99)] T.uint8 (fun (v_1 : Sl) (h : Heap) =>
  opK Try.prog .slice (convert T.sl_uint8 T.sl_uint8 (.slice v_1.a v_1.n v_1.c)) (fun (v_2 : Sl) (h : Heap) =>
  loopW (fun X_4 (s_3 : Sl × Int) (h : Heap) =>
  if (decide (s_3.2 < 4)) = true then
  sliceK v_2 none (some s_3.2) none (sizeOfT Try.prog T.uint8) (fun (v_5 : Sl) =>
  sliceK v_2 (some s_3.2) none none (sizeOfT Try.prog T.uint8) (fun (v_6 : Sl) =>
  sliceK v_2 none (some s_3.2) none (sizeOfT Try.prog T.uint8) (fun (v_7 : Sl) =>
  sliceK v_2 (some s_3.2) none none (sizeOfT Try.prog T.uint8) (fun (v_8 : Sl) =>
  sliceK v_2 none (some s_3.2) none (sizeOfT Try.prog T.uint8) (fun (v_9 : Sl) =>
  buildK Try.prog (Instr.build T.zugzwanglaw04_Ask #[(0, (.int .i64 2)), (3, (.int .i64 s_3.2))]) (fun (v_10 : Array Value) =>
  ((newSlK h 2 #[(.slice v_5.a v_5.n v_5.c), (.slice v_6.a v_6.n v_6.c)] T.sl_uint8 (fun (v_11 : Sl) (h : Heap) =>
  buildK Try.prog (Instr.build T.zugzwanglaw04_Ask #[(2, (.slice v_11.a v_11.n v_11.c))]) (fun (v_12 : Array Value) =>
  ((newSlK h 1 #[(.slice v_8.a v_8.n v_8.c)] T.sl_uint8 (fun (v_13 : Sl) (h : Heap) =>
  buildK Try.prog (Instr.build T.zugzwanglaw04_Ask #[(0, (.int .i64 1)), (1, (.slice v_7.a v_7.n v_7.c)), (2, (.slice v_13.a v_13.n v_13.c))]) (fun (v_14 : Array Value) =>
  newSlK h 2 #[(.slice v_9.a v_9.n v_9.c), (.slice none 0 0)] T.sl_uint8 (fun (v_15 : Sl) (h : Heap) =>
  buildK Try.prog (Instr.build T.zugzwanglaw04_Ask #[(0, (.int .i64 1)), (1, (.slice v_2.a v_2.n v_2.c)), (2, (.slice v_15.a v_15.n v_15.c))]) (fun (v_16 : Array Value) =>
  opK Try.prog .slice (Instr.buildSlice T.sl_zugzwanglaw04_Ask 4 #[(0, (.agg v_12)), (1, (.agg v_14)), (2, (.agg v_16)), (3, (.agg v_10))]) (fun (v_17 : Sl) (h : Heap) =>
  opK Try.prog .slice (Builtin.append_ #[T.sl_zugzwanglaw04_Ask, T.sl_zugzwanglaw04_Ask] T.sl_zugzwanglaw04_Ask #[(.slice s_3.1.a s_3.1.n s_3.1.c), (.slice v_17.a v_17.n v_17.c)]) (fun (v_18 : Sl) (h : Heap) =>
  X_4 (v_18, IntKind.i64.wrap (s_3.2 + 1)) h) h) h))))) ∧
  (newSlK h 2 #[(.slice v_9.a v_9.n v_9.c), (.slice none 0 0)] T.sl_uint8 (fun (v_19 : Sl) (h : Heap) =>
  buildK Try.prog (Instr.build T.zugzwanglaw04_Ask #[(0, (.int .i64 1)), (1, (.slice v_2.a v_2.n v_2.c)), (2, (.slice v_19.a v_19.n v_19.c))]) (fun (v_20 : Array Value) =>
  newSlK h 1 #[(.slice v_8.a v_8.n v_8.c)] T.sl_uint8 (fun (v_21 : Sl) (h : Heap) =>
  buildK Try.prog (Instr.build T.zugzwanglaw04_Ask #[(0, (.int .i64 1)), (1, (.slice v_7.a v_7.n v_7.c)), (2, (.slice v_21.a v_21.n v_21.c))]) (fun (v_22 : Array Value) =>
  opK Try.prog .slice (Instr.buildSlice T.sl_zugzwanglaw04_Ask 4 #[(0, (.agg v_12)), (1, (.agg v_22)), (2, (.agg v_20)), (3, (.agg v_10))]) (fun (v_23 : Sl) (h : Heap) =>
  opK Try.prog .slice (Builtin.append_ #[T.sl_zugzwanglaw04_Ask, T.sl_zugzwanglaw04_Ask] T.sl_zugzwanglaw04_Ask #[(.slice s_3.1.a s_3.1.n s_3.1.c), (.slice v_23.a v_23.n v_23.c)]) (fun (v_24 : Sl) (h : Heap) =>
  X_4 (v_24, IntKind.i64.wrap (s_3.2 + 1)) h) h) h))))))))) ∧
  (((newSlK h 1 #[(.slice v_8.a v_8.n v_8.c)] T.sl_uint8 (fun (v_25 : Sl) (h : Heap) =>
  buildK Try.prog (Instr.build T.zugzwanglaw04_Ask #[(0, (.int .i64 1)), (1, (.slice v_7.a v_7.n v_7.c)), (2, (.slice v_25.a v_25.n v_25.c))]) (fun (v_26 : Array Value) =>
  ((newSlK h 2 #[(.slice v_5.a v_5.n v_5.c), (.slice v_6.a v_6.n v_6.c)] T.sl_uint8 (fun (v_27 : Sl) (h : Heap) =>
  buildK Try.prog (Instr.build T.zugzwanglaw04_Ask #[(2, (.slice v_27.a v_27.n v_27.c))]) (fun (v_28 : Array Value) =>
  newSlK h 2 #[(.slice v_9.a v_9.n v_9.c), (.slice none 0 0)] T.sl_uint8 (fun (v_29 : Sl) (h : Heap) =>
  buildK Try.prog (Instr.build T.zugzwanglaw04_Ask #[(0, (.int .i64 1)), (1, (.slice v_2.a v_2.n v_2.c)), (2, (.slice v_29.a v_29.n v_29.c))]) (fun (v_30 : Array Value) =>
  opK Try.prog .slice (Instr.buildSlice T.sl_zugzwanglaw04_Ask 4 #[(0, (.agg v_28)), (1, (.agg v_26)), (2, (.agg v_30)), (3, (.agg v_10))]) (fun (v_31 : Sl) (h : Heap) =>
  opK Try.prog .slice (Builtin.append_ #[T.sl_zugzwanglaw04_Ask, T.sl_zugzwanglaw04_Ask] T.sl_zugzwanglaw04_Ask #[(.slice s_3.1.a s_3.1.n s_3.1.c), (.slice v_31.a v_31.n v_31.c)]) (fun (v_32 : Sl) (h : Heap) =>
  X_4 (v_32, IntKind.i64.wrap (s_3.2 + 1)) h) h) h))))) ∧
  (newSlK h 2 #[(.slice v_9.a v_9.n v_9.c), (.slice none 0 0)] T.sl_uint8 (fun (v_33 : Sl) (h : Heap) =>
  buildK Try.prog (Instr.build T.zugzwanglaw04_Ask #[(0, (.int .i64 1)), (1, (.slice v_2.a v_2.n v_2.c)), (2, (.slice v_33.a v_33.n v_33.c))]) (fun (v_34 : Array Value) =>
  newSlK h 2 #[(.slice v_5.a v_5.n v_5.c), (.slice v_6.a v_6.n v_6.c)] T.sl_uint8 (fun (v_35 : Sl) (h : Heap) =>
  buildK Try.prog (Instr.build T.zugzwanglaw04_Ask #[(2, (.slice v_35.a v_35.n v_35.c))]) (fun (v_36 : Array Value) =>
  opK Try.prog .slice (Instr.buildSlice T.sl_zugzwanglaw04_Ask 4 #[(0, (.agg v_36)), (1, (.agg v_26)), (2, (.agg v_34)), (3, (.agg v_10))]) (fun (v_37 : Sl) (h : Heap) =>
  opK Try.prog .slice (Builtin.append_ #[T.sl_zugzwanglaw04_Ask, T.sl_zugzwanglaw04_Ask] T.sl_zugzwanglaw04_Ask #[(.slice s_3.1.a s_3.1.n s_3.1.c), (.slice v_37.a v_37.n v_37.c)]) (fun (v_38 : Sl) (h : Heap) =>
  X_4 (v_38, IntKind.i64.wrap (s_3.2 + 1)) h) h) h))))))))) ∧
  (newSlK h 2 #[(.slice v_9.a v_9.n v_9.c), (.slice none 0 0)] T.sl_uint8 (fun (v_39 : Sl) (h : Heap) =>
  buildK Try.prog (Instr.build T.zugzwanglaw04_Ask #[(0, (.int .i64 1)), (1, (.slice v_2.a v_2.n v_2.c)), (2, (.slice v_39.a v_39.n v_39.c))]) (fun (v_40 : Array Value) =>
  ((newSlK h 2 #[(.slice v_5.a v_5.n v_5.c), (.slice v_6.a v_6.n v_6.c)] T.sl_uint8 (fun (v_41 : Sl) (h : Heap) =>
  buildK Try.prog (Instr.build T.zugzwanglaw04_Ask #[(2, (.slice v_41.a v_41.n v_41.c))]) (fun (v_42 : Array Value) =>
  newSlK h 1 #[(.slice v_8.a v_8.n v_8.c)] T.sl_uint8 (fun (v_43 : Sl) (h : Heap) =>
  buildK Try.prog (Instr.build T.zugzwanglaw04_Ask #[(0, (.int .i64 1)), (1, (.slice v_7.a v_7.n v_7.c)), (2, (.slice v_43.a v_43.n v_43.c))]) (fun (v_44 : Array Value) =>
  opK Try.prog .slice (Instr.buildSlice T.sl_zugzwanglaw04_Ask 4 #[(0, (.agg v_42)), (1, (.agg v_44)), (2, (.agg v_40)), (3, (.agg v_10))]) (fun (v_45 : Sl) (h : Heap) =>
  opK Try.prog .slice (Builtin.append_ #[T.sl_zugzwanglaw04_Ask, T.sl_zugzwanglaw04_Ask] T.sl_zugzwanglaw04_Ask #[(.slice s_3.1.a s_3.1.n s_3.1.c), (.slice v_45.a v_45.n v_45.c)]) (fun (v_46 : Sl) (h : Heap) =>
  X_4 (v_46, IntKind.i64.wrap (s_3.2 + 1)) h) h) h))))) ∧
  (newSlK h 1 #[(.slice v_8.a v_8.n v_8.c)] T.sl_uint8 (fun (v_47 : Sl) (h : Heap) =>
  buildK Try.prog (Instr.build T.zugzwanglaw04_Ask #[(0, (.int .i64 1)), (1, (.slice v_7.a v_7.n v_7.c)), (2, (.slice v_47.a v_47.n v_47.c))]) (fun (v_48 : Array Value) =>
  newSlK h 2 #[(.slice v_5.a v_5.n v_5.c), (.slice v_6.a v_6.n v_6.c)] T.sl_uint8 (fun (v_49 : Sl) (h : Heap) =>
  buildK Try.prog (Instr.build T.zugzwanglaw04_Ask #[(2, (.slice v_49.a v_49.n v_49.c))]) (fun (v_50 : Array Value) =>
  opK Try.prog .slice (Instr.buildSlice T.sl_zugzwanglaw04_Ask 4 #[(0, (.agg v_50)), (1, (.agg v_48)), (2, (.agg v_40)), (3, (.agg v_10))]) (fun (v_51 : Sl) (h : Heap) =>
  opK Try.prog .slice (Builtin.append_ #[T.sl_zugzwanglaw04_Ask, T.sl_zugzwanglaw04_Ask] T.sl_zugzwanglaw04_Ask #[(.slice s_3.1.a s_3.1.n s_3.1.c), (.slice v_51.a v_51.n v_51.c)]) (fun (v_52 : Sl) (h : Heap) =>
  X_4 (v_52, IntKind.i64.wrap (s_3.2 + 1)) h) h) h))))))))))))))))))
  else
  newSlK h 6 #[(.int .i64 ((-9223372036854775808))), (.int .i64 ((-1))), (.int .i64 0), (.int .i64 255), (.int .i64 256), (.int .i64 9223372036854775807)] T.int (fun (v_53 : Sl) (h : Heap) =>
  loopW (fun X_55 (s_54 : Sl × Int) (h : Heap) =>
  if (decide (s_54.2 < ((v_53.n : Int)))) = true then
  idxK v_53 s_54.2 (sizeOfT Try.prog T.int) (fun (a_56 : Addr) =>
  idxK v_53 s_54.2 (sizeOfT Try.prog T.int) (fun (a_57 : Addr) =>
  loadK (.int .i64) h ((some a_56)) (fun (v_58 : Int) =>
  buildK Try.prog (Instr.build T.zugzwanglaw04_Ask #[(0, (.int .i64 2)), (3, (.int .i64 v_58))]) (fun (v_59 : Array Value) =>
  loadK (.int .i64) h ((some a_57)) (fun (v_60 : Int) =>
  newSlK h 1 #[(.int .u8 (IntKind.u8.wrap v_60))] T.uint8 (fun (v_61 : Sl) (h : Heap) =>
  newSlK h 1 #[(.slice v_61.a v_61.n v_61.c)] T.sl_uint8 (fun (v_62 : Sl) (h : Heap) =>
  buildK Try.prog (Instr.build T.zugzwanglaw04_Ask #[(2, (.slice v_62.a v_62.n v_62.c))]) (fun (v_63 : Array Value) =>
  opK Try.prog .slice (Instr.buildSlice T.sl_zugzwanglaw04_Ask 2 #[(0, (.agg v_59)), (1, (.agg v_63))]) (fun (v_64 : Sl) (h : Heap) =>
  opK Try.prog .slice (Builtin.append_ #[T.sl_zugzwanglaw04_Ask, T.sl_zugzwanglaw04_Ask] T.sl_zugzwanglaw04_Ask #[(.slice s_54.1.a s_54.1.n s_54.1.c), (.slice v_64.a v_64.n v_64.c)]) (fun (v_65 : Sl) (h : Heap) =>
  X_55 (v_65, IntKind.i64.wrap (s_54.2 + 1)) h) h) h))))))))
  else
  buildK Try.prog (Instr.build T.api_Tag #[]) (fun (v_66 : Array Value) =>
  callK Try.prog .agg F.ref04_Number #[(.int .i64 0)] (fun (v_67 : Array Value) (h : Heap) =>
  callK Try.prog .agg F.ref04_Number #[(.int .i64 5)] (fun (v_68 : Array Value) (h : Heap) =>
  callK Try.prog .agg F.ref04_Number #[(.int .i64 ((s_54.1.n : Int)))] (fun (v_69 : Array Value) (h : Heap) =>
  callK Try.prog .agg F.ref04_Number #[(.int .i64 ((-1)))] (fun (v_70 : Array Value) (h : Heap) =>
  callK Try.prog .agg F.ref04_Number #[(.int .i64 4611686018427387904)] (fun (v_71 : Array Value) (h : Heap) =>
  opK Try.prog .slice (Instr.buildSlice T.sl_api_Tag 6 #[(0, (.agg v_66)), (1, (.agg v_67)), (2, (.agg v_68)), (3, (.agg v_69)), (4, (.agg v_70)), (5, (.agg v_71))]) (fun (v_72 : Sl) (h : Heap) =>
  loopW (fun X_74 (s_73 : Int) (h : Heap) =>
  if (decide (s_73 < ((v_72.n : Int)))) = true then
  idxK v_72 s_73 (sizeOfT Try.prog T.api_Tag) (fun (a_75 : Addr) =>
  loadAggK (sizeOfT Try.prog T.api_Tag) h ((some a_75)) (fun (v_76 : Array Value) =>
  newK h (zerosOf Try.prog T.api_Tag) T.api_Tag (fun (t_77 : Option Addr) (h : Heap) =>
  storeAggK (sizeOfT Try.prog T.api_Tag) h t_77 v_76 (fun (h : Heap) =>
  idxArrK t_77 32 31 (sizeOfT Try.prog T.uint8) (fun (a_78 : Addr) =>
  storeK h ((some a_78)) (.int .u8 1) (fun (h : Heap) =>
  idxK v_72 s_73 (sizeOfT Try.prog T.api_Tag) (fun (a_79 : Addr) =>
  loadAggK (sizeOfT Try.prog T.api_Tag) h ((some a_79)) (fun (v_80 : Array Value) =>
  callK Try.prog .bool F.law04_TagsTell #[(.bool false), (.slice v_2.a v_2.n v_2.c), (.slice s_54.1.a s_54.1.n s_54.1.c), (.agg v_80)] (fun (v_81 : Bool) (h : Heap) =>
  if (!v_81) = true then
  R (.bool false) h
  else
  idxK v_72 s_73 (sizeOfT Try.prog T.api_Tag) (fun (a_82 : Addr) =>
  loadAggK (sizeOfT Try.prog T.api_Tag) h ((some a_82)) (fun (v_83 : Array Value) =>
  callK Try.prog .bool F.law04_TagsTell #[(.bool true), (.slice v_2.a v_2.n v_2.c), (.slice s_54.1.a s_54.1.n s_54.1.c), (.agg v_83)] (fun (v_84 : Bool) (h : Heap) =>
  if (!v_84) = true then
  R (.bool false) h
  else
  loadAggK (sizeOfT Try.prog T.api_Tag) h t_77 (fun (v_85 : Array Value) =>
  callK Try.prog .bool F.law04_TagsTell #[(.bool false), (.slice none 0 0), (.slice s_54.1.a s_54.1.n s_54.1.c), (.agg v_85)] (fun (v_86 : Bool) (h : Heap) =>
  if (!v_86) = true then
  R (.bool false) h
  else
  sliceK s_54.1 (some s_73) none none (sizeOfT Try.prog T.zugzwanglaw04_Ask) (fun (v_87 : Sl) =>
  loadAggK (sizeOfT Try.prog T.api_Tag) h t_77 (fun (v_88 : Array Value) =>
  callK Try.prog .bool F.law04_TagsTell #[(.bool true), (.slice none 0 0), (.slice v_87.a v_87.n v_87.c), (.agg v_88)] (fun (v_89 : Bool) (h : Heap) =>
  if (!v_89) = true then
  R (.bool false) h
  else
  X_74 (IntKind.i64.wrap (s_73 + 1)) h) h))) h)) h))) h))))))))
  else
  loopW (fun X_91 (s_90 : Int) (h : Heap) =>
  if (decide (s_90 ≤ 8)) = true then
  quietK Try.prog .str (Instr.sliceAt T.string (.string ((⟨#[122, 117, 103, 122, 119, 97, 110, 103]⟩ : ByteArray))) none (some (.int .i64 s_90)) none) (fun (v_92 : ByteArray) =>
  quietK Try.prog .str (binSem .add T.string (.const (.string ((⟨#[122, 117, 103]⟩ : ByteArray)))) (.tmp 125) (.string ((⟨#[122, 117, 103]⟩ : ByteArray))) (.string v_92)) (fun (v_93 : ByteArray) =>
  opK Try.prog .slice (convert T.string T.sl_uint8 (.string v_93)) (fun (v_94 : Sl) (h : Heap) =>
  callK Try.prog .bool F.tags_Mark #[(.slice v_94.a v_94.n v_94.c)] (fun (v_95 : Bool) (h : Heap) =>
  if (!(v_95 == (s_90 == 8))) = true then
  R (.bool false) h
  else
  quietK Try.prog .str (Instr.sliceAt T.string (.string ((⟨#[122, 117, 103, 122, 119, 97, 110, 103]⟩ : ByteArray))) (some (.int .i64 s_90)) none none) (fun (v_96 : ByteArray) =>
  quietK Try.prog .str (binSem .add T.string (.tmp 135) (.const (.string ((⟨#[33]⟩ : ByteArray)))) (.string v_96) (.string ((⟨#[33]⟩ : ByteArray)))) (fun (v_97 : ByteArray) =>
  opK Try.prog .slice (convert T.string T.sl_uint8 (.string v_97)) (fun (v_98 : Sl) (h : Heap) =>
  callK Try.prog .bool F.tags_Mark #[(.slice v_98.a v_98.n v_98.c)] (fun (v_99 : Bool) (h : Heap) =>
  if (!(v_99 == (s_90 == 0))) = true then
  R (.bool false) h
  else
  ((quietK Try.prog .str (Instr.sliceAt T.string (.string ((⟨#[122, 117, 103, 122, 119, 97, 110, 103]⟩ : ByteArray))) none (some (.int .i64 s_90)) none) (fun (v_100 : ByteArray) =>
  ((quietK Try.prog .str (binSem .add T.string (.tmp 146) (.tmp 147) (.string v_100) (.string ((⟨#[122, 117, 103, 122, 119, 97, 110, 103]⟩ : ByteArray)))) (fun (v_101 : ByteArray) =>
  quietK Try.prog .str (Instr.sliceAt T.string (.string ((⟨#[122, 117, 103, 122, 119, 97, 110, 103]⟩ : ByteArray))) (some (.int .i64 s_90)) none none) (fun (v_102 : ByteArray) =>
  quietK Try.prog .str (binSem .add T.string (.tmp 148) (.tmp 151) (.string v_101) (.string v_102)) (fun (v_103 : ByteArray) =>
  opK Try.prog .slice (convert T.string T.sl_uint8 (.string v_103)) (fun (v_104 : Sl) (h : Heap) =>
  callK Try.prog .bool F.tags_Mark #[(.slice v_104.a v_104.n v_104.c)] (fun (v_105 : Bool) (h : Heap) =>
  if (!v_105) = true then
  R (.bool false) h
  else
  X_91 (IntKind.i64.wrap (s_90 + 1)) h) h) h) h) h) h) ∧
  (quietK Try.prog .str (Instr.sliceAt T.string (.string ((⟨#[122, 117, 103, 122, 119, 97, 110, 103]⟩ : ByteArray))) (some (.int .i64 s_90)) none none) (fun (v_106 : ByteArray) =>
  quietK Try.prog .str (binSem .add T.string (.tmp 146) (.tmp 147) (.string v_100) (.string ((⟨#[122, 117, 103, 122, 119, 97, 110, 103]⟩ : ByteArray)))) (fun (v_107 : ByteArray) =>
  quietK Try.prog .str (binSem .add T.string (.tmp 148) (.tmp 151) (.string v_107) (.string v_106)) (fun (v_108 : ByteArray) =>
  opK Try.prog .slice (convert T.string T.sl_uint8 (.string v_108)) (fun (v_109 : Sl) (h : Heap) =>
  callK Try.prog .bool F.tags_Mark #[(.slice v_109.a v_109.n v_109.c)] (fun (v_110 : Bool) (h : Heap) =>
  if (!v_110) = true then
  R (.bool false) h
  else
  X_91 (IntKind.i64.wrap (s_90 + 1)) h) h) h) h) h) h))) h) ∧
  (quietK Try.prog .str (Instr.sliceAt T.string (.string ((⟨#[122, 117, 103, 122, 119, 97, 110, 103]⟩ : ByteArray))) (some (.int .i64 s_90)) none none) (fun (v_111 : ByteArray) =>
  quietK Try.prog .str (Instr.sliceAt T.string (.string ((⟨#[122, 117, 103, 122, 119, 97, 110, 103]⟩ : ByteArray))) none (some (.int .i64 s_90)) none) (fun (v_112 : ByteArray) =>
  quietK Try.prog .str (binSem .add T.string (.tmp 146) (.tmp 147) (.string v_112) (.string ((⟨#[122, 117, 103, 122, 119, 97, 110, 103]⟩ : ByteArray)))) (fun (v_113 : ByteArray) =>
  quietK Try.prog .str (binSem .add T.string (.tmp 148) (.tmp 151) (.string v_113) (.string v_111)) (fun (v_114 : ByteArray) =>
  opK Try.prog .slice (convert T.string T.sl_uint8 (.string v_114)) (fun (v_115 : Sl) (h : Heap) =>
  callK Try.prog .bool F.tags_Mark #[(.slice v_115.a v_115.n v_115.c)] (fun (v_116 : Bool) (h : Heap) =>
  if (!v_116) = true then
  R (.bool false) h
  else
  X_91 (IntKind.i64.wrap (s_90 + 1)) h) h) h) h) h) h) h))) h) h) h) h) h) h) h) h
  else
  callK Try.prog .bool F.tags_Mark #[(.slice none 0 0)] (fun (v_117 : Bool) (h : Heap) =>
  if (!v_117) = true then
  callK Try.prog .bool F.law04_none #[] (fun (v_118 : Bool) (h : Heap) =>
  if v_118 = true then
  callK Try.prog .bool F.law04_awake #[] (fun (v_119 : Bool) (h : Heap) =>
  R (.bool v_119) h) h
  else
  R (.bool false) h) h
  else
  R (.bool false) h) h) 0 h) 0 h) h) h) h) h) h) h)) (s_3.1, 0) h)) (⟨none, 0, 0⟩, 0) h) h)
def law04_TagsEnds.ann : Ann := (.seq .leaf (.seq .leaf (.seq .leaf (.seq (.seq .leaf (.block (.loop [(2, .slice), (3, (.int .i64))] (.seq (.seq .leaf (.cond .leaf .leaf)) (.seq (.block (.any (.loc 0 (.loc 1 (.loc 2 (.loc 3 (.loc 4 (.loc 5 (.loc 6 (.loc 9 (.loc 10 (.loc 11 (.loc 12 (.loc 13 (.loc 14 (.loc 17 (.loc 18 (.loc 19 (.loc 20 (.loc 23 (.loc 24 (.alt 7 (.loc 8 (.alt 15 (.loc 16 (.last 21 (.loc 22 (.last 25 (.last 26 (.loc 27 .done)))))) (.last 21 (.loc 22 (.last 15 (.loc 16 (.last 25 (.last 26 (.loc 27 .done))))))))) (.alt 15 (.loc 16 (.alt 7 (.loc 8 (.last 21 (.loc 22 (.last 25 (.last 26 (.loc 27 .done)))))) (.last 21 (.loc 22 (.last 7 (.loc 8 (.last 25 (.last 26 (.loc 27 .done))))))))) (.last 21 (.loc 22 (.alt 7 (.loc 8 (.last 15 (.loc 16 (.last 25 (.last 26 (.loc 27 .done)))))) (.last 15 (.loc 16 (.last 7 (.loc 8 (.last 25 (.last 26 (.loc 27 .done))))))))))))))))))))))))))))))))) .leaf))))) (.seq .leaf (.seq (.seq .leaf (.block (.loop [(2, .slice), (5, (.int .i64))] (.seq (.seq .leaf (.cond .leaf .leaf)) (.seq (.block (.any (.loc 0 (.loc 1 (.loc 2 (.loc 3 (.loc 6 (.loc 7 (.loc 8 (.st 4 114720 (.loc 5 (.st 9 130048 (.loc 10 (.last 11 (.last 12 (.loc 13 (.last 14 (.last 15 (.loc 16 .done))))))))))))))))))) .leaf))))) (.seq .leaf (.seq (.seq .leaf (.block (.loop [(7, (.int .i64))] (.seq (.seq .leaf (.cond .leaf .leaf)) (.seq (.block (.seq .leaf (.seq .leaf (.seq (.any (.loc 0 (.loc 1 (.loc 2 (.loc 3 (.loc 4 (.st 5 4294967232 (.last 6 (.loc 7 (.loc 8 (.locA 9 (.loc 10 (.loc 11 (.loc 12 (.loc 13 (.loc 14 (.loc 15 (.loc 16 (.loc 17 (.loc 18 (.loc 19 (.loc 20 (.loc 21 (.loc 22 (.loc 23 (.loc 24 (.loc 25 (.loc 26 (.loc 27 (.loc 28 (.loc 29 (.loc 30 (.loc 31 .done)))))))))))))))))))))) (.loc 10 (.loc 11 (.loc 12 (.loc 13 (.st 14 4294934528 (.last 15 (.loc 16 (.loc 17 (.loc 18 (.locA 19 (.loc 20 (.loc 21 (.loc 22 (.loc 23 (.loc 24 (.loc 25 (.loc 26 (.loc 27 (.loc 28 (.loc 29 (.loc 30 (.loc 31 .done)))))))))))) (.st 20 4292870144 (.last 21 (.loc 22 (.loc 23 (.loc 24 (.locA 25 (.loc 26 (.loc 27 (.loc 28 (.loc 29 (.loc 30 (.loc 31 .done)))))) (.loc 26 (.loc 27 (.st 28 3758096384 (.last 29 (.loc 30 (.loc 31 .done))))))))))))))))))))))))))))))))) (.cond (.seq .leaf .leaf) .leaf))))) .leaf))))) (.seq .leaf (.seq (.seq .leaf (.block (.loop [(10, (.int .i64))] (.seq (.seq .leaf (.cond .leaf .leaf)) (.seq (.block (.seq (.any (.loc 0 (.loc 1 (.loc 6 (.loc 7 (.last 2 (.last 3 (.last 4 (.last 5 (.loc 8 (.loc 9 (.locA 10 (.loc 11 (.loc 12 (.loc 13 (.loc 14 (.loc 15 (.loc 16 (.loc 17 (.loc 18 (.loc 19 (.loc 20 (.loc 21 (.loc 22 (.loc 23 (.loc 24 (.loc 25 (.loc 26 (.loc 27 (.loc 28 (.loc 29 (.loc 30 (.loc 31 (.loc 32 (.loc 33 .done))))))))))))))))))))))) (.loc 11 (.loc 16 (.loc 17 (.last 12 (.last 13 (.last 14 (.last 15 (.loc 18 (.loc 19 (.loc 20 (.locA 21 (.loc 22 (.loc 23 (.loc 24 (.loc 25 (.loc 26 (.loc 27 (.loc 28 (.loc 29 (.loc 30 (.loc 31 (.loc 32 (.loc 33 .done)))))))))))) (.loc 22 (.loc 24 (.loc 26 (.loc 27 (.alt 23 (.alt 25 (.last 28 (.last 29 (.last 30 (.last 31 (.loc 32 (.loc 33 .done)))))) (.last 28 (.last 25 (.last 29 (.last 30 (.last 31 (.loc 32 (.loc 33 .done)))))))) (.last 28 (.last 23 (.last 25 (.last 29 (.last 30 (.last 31 (.loc 32 (.loc 33 .done)))))))))))))))))))))))))))))))))))) (.cond (.seq .leaf .leaf) .leaf))) .leaf))))) (.seq .leaf .leaf)))))))))))
theorem law04_TagsEnds.eq  (R : Value → Heap → Prop) (h : Heap) : law04_TagsEnds.body  R h = evFn Try.prog Try.f5 law04_TagsEnds.ann [] R h := by kernel_rfl
theorem law04_TagsEnds.calls  {R : Value → Heap → Prop} {h : Heap} (H : law04_TagsEnds.body  R h) : HC Try.prog F.law04_TagsEnds #[] R h :=
  evFn_sound mixed Try.func5 (by kernel_rfl) (law04_TagsEnds.eq  R h ▸ H)

end Go.Proofs.Ytgdkaljbjhbeiaa
