import Derived.Test.YtafjmdeldejonaaGreatSig
set_option linter.unusedVariables false
set_option maxRecDepth 100000
namespace Go.Proofs.YtafjmdeldejonaaGreat
open Go.Ev
/-! (*zugzwang/zugzwangref04.Maker).ask -/
def ref04_Maker_ask.body (m0 : Option Addr) (x1 : Array Value) (R : Value → Heap → Prop) (h : Heap) : Prop :=
  newK h x1 T.zugzwangref04_Thing (fun (x_1 : Option Addr) h =>
  newK h (zerosOf Tryz.prog T.api_Tag) T.api_Tag (fun (v2 : Option Addr) h =>
  loopW (fun X_4 (s_3 : Int) (h : Heap) =>
  derefK m0 (fun (a_5 : Addr) =>
  fldK ((some a_5)) 2 (fun (a_6 : Addr) =>
  loadK .slice h ((some a_6)) (fun (v7 : Sl) =>
  if (decide (s_3 < ((v7.n : Int)))) = true then
  derefK m0 (fun (a_8 : Addr) =>
  fldK ((some a_8)) 2 (fun (a_9 : Addr) =>
  loadK .slice h ((some a_9)) (fun (v10 : Sl) =>
  idxK v10 s_3 (sizeOfT Tryz.prog T.zugzwangref04_Thing) (fun (a_11 : Addr) =>
  loadAggK (sizeOfT Tryz.prog T.zugzwangref04_Thing) h ((some a_11)) (fun (v12 : Array Value) =>
  loadAggK (sizeOfT Tryz.prog T.zugzwangref04_Thing) h x_1 (fun (v13 : Array Value) =>
  eqK Tryz.prog (binSem .eql T.zugzwangref04_Thing (.tmp 21) (.tmp 22) (.agg v12) (.agg v13)) (fun (v14 : Bool) =>
  if v14 = true then
  callK Tryz.prog .agg F.ref04_Number #[.int .i64 s_3] (fun (v15 : Array Value) h =>
  storeAggK (sizeOfT Tryz.prog T.api_Tag) h v2 v15 (fun h =>
  quietK Tryz.prog .agg (Instr.loadAt T.api_Tag (.pointer v2)) (fun r16 =>
  R (.agg r16) h) h)) h
  else
  X_4 (IntKind.i64.wrap (s_3 + 1)) h)))))))
  else
  derefK m0 (fun (a_17 : Addr) =>
  fldK ((some a_17)) 2 (fun (a_18 : Addr) =>
  loadK .slice h ((some a_18)) (fun (v19 : Sl) =>
  loadAggK (sizeOfT Tryz.prog T.zugzwangref04_Thing) h x_1 (fun (v20 : Array Value) =>
  opK Tryz.prog .slice (Instr.buildSlice T.sl_zugzwangref04_Thing 1 #[(0, (.agg v20))]) (fun (v21 : Sl) h =>
  opK Tryz.prog .slice (Builtin.append_ #[T.sl_zugzwangref04_Thing, T.sl_zugzwangref04_Thing] T.sl_zugzwangref04_Thing #[.slice v19.a v19.n v19.c, .slice v21.a v21.n v21.c]) (fun (v22 : Sl) h =>
  derefK m0 (fun (a_23 : Addr) =>
  fldK ((some a_23)) 2 (fun (a_24 : Addr) =>
  storeK h ((some a_24)) (.slice v22.a v22.n v22.c) (fun h =>
  derefK m0 (fun (a_25 : Addr) =>
  fldK ((some a_25)) 2 (fun (a_26 : Addr) =>
  loadK .slice h ((some a_26)) (fun (v27 : Sl) =>
  callK Tryz.prog .agg F.ref04_Number #[(.int .i64 (IntKind.i64.wrap (((v27.n : Int)) - 1)))] (fun (v28 : Array Value) h =>
  storeAggK (sizeOfT Tryz.prog T.api_Tag) h v2 v28 (fun h =>
  quietK Tryz.prog .agg (Instr.loadAt T.api_Tag (.pointer v2)) (fun r29 =>
  R (.agg r29) h) h)) h))))))) h) h)))))))) 0 h))
def ref04_Maker_ask.ann : Ann := (.seq .leaf (.seq (.seq .leaf (.block (.loop [(5, (.int .i64))] (.seq (.seq .leaf (.cond .leaf .leaf)) (.seq (.block (.seq .leaf (.cond (.seq .leaf .leaf) .leaf))) .leaf))))) (.seq (.any (.loc 0 (.loc 1 (.loc 2 (.loc 3 (.st 4 1920 (.st 5 1984 (.last 6 (.last 7 (.loc 8 (.loc 9 (.last 10 .done)))))))))))) (.seq .leaf .leaf))))
theorem ref04_Maker_ask.eq (m0 : Option Addr) (x1 : Array Value) (R : Value → Heap → Prop) (h : Heap) : ref04_Maker_ask.body m0 x1 R h = evFn Tryz.prog Tryz.f66 ref04_Maker_ask.ann [.pointer m0, .agg x1] R h := by kernel_rfl
theorem ref04_Maker_ask.calls {m0 : Option Addr} {x1 : Array Value} {R : Value → Heap → Prop} {h : Heap} (H : ref04_Maker_ask.body m0 x1 R h) : HC Tryz.prog F.ref04_Maker_ask #[.pointer m0, .agg x1] R h :=
  evFn_sound mixed Tryz.func66 (by kernel_rfl) (ref04_Maker_ask.eq m0 x1 R h ▸ H)

/-! zugzwang/zugzwanglaw22.awake -/
def law22_awake.body  (R : Value → Heap → Prop) (h : Heap) : Prop :=
  callK Tryz.prog .ptr F.tags_New #[.bool false, .slice none 0 0] (fun (v1 : Option Addr) h =>
  buildK Tryz.prog (Instr.build T.api_Tag #[(0, (.int .u8 1))]) (fun (v2 : Array Value) =>
  buildK Tryz.prog (Instr.build T.api_Tag #[(0, (.int .u8 2))]) (fun (v3 : Array Value) =>
  callK Tryz.prog (Kd.pair .agg (.int .i64)) F.commit_Coin #[.pointer v1, .agg v2, .int .i64 0, .int .i64 0, .agg v3] (fun (v4 : Array Value × Int) h =>
  newK h (zerosOf Tryz.prog T.api_Tag) T.api_Tag (fun (a_5 : Option Addr) h =>
  storeAggK (sizeOfT Tryz.prog T.api_Tag) h a_5 v4.1 (fun h =>
  buildK Tryz.prog (Instr.build T.api_Tag #[(0, (.int .u8 1))]) (fun (v6 : Array Value) =>
  buildK Tryz.prog (Instr.build T.api_Tag #[(0, (.int .u8 2))]) (fun (v7 : Array Value) =>
  callK Tryz.prog (Kd.pair .agg (.int .i64)) F.commit_Coin #[.pointer v1, .agg v6, .int .i64 0, .int .i64 1, .agg v7] (fun (v8 : Array Value × Int) h =>
  newK h (zerosOf Tryz.prog T.api_Tag) T.api_Tag (fun (b_9 : Option Addr) h =>
  storeAggK (sizeOfT Tryz.prog T.api_Tag) h b_9 v8.1 (fun h =>
  buildK Tryz.prog (Instr.build T.api_Tag #[(0, (.int .u8 1))]) (fun (v10 : Array Value) =>
  buildK Tryz.prog (Instr.build T.api_Tag #[(0, (.int .u8 2))]) (fun (v11 : Array Value) =>
  callK Tryz.prog (Kd.pair .agg (.int .i64)) F.commit_Coin #[.pointer v1, .agg v10, .int .i64 0, .int .i64 0, .agg v11] (fun (v12 : Array Value × Int) h =>
  newK h (zerosOf Tryz.prog T.api_Tag) T.api_Tag (fun (c_13 : Option Addr) h =>
  storeAggK (sizeOfT Tryz.prog T.api_Tag) h c_13 v12.1 (fun h =>
  if (v4.2 == 0) = true then
  if (v8.2 == 0) = true then
  if (v12.2 == 0) = true then
  loadAggK (sizeOfT Tryz.prog T.api_Tag) h a_5 (fun (v14 : Array Value) =>
  loadAggK (sizeOfT Tryz.prog T.api_Tag) h c_13 (fun (v15 : Array Value) =>
  eqK Tryz.prog (binSem .eql T.api_Tag (.tmp 41) (.tmp 42) (.agg v14) (.agg v15)) (fun (v16 : Bool) =>
  if v16 = true then
  loadAggK (sizeOfT Tryz.prog T.api_Tag) h a_5 (fun (v17 : Array Value) =>
  loadAggK (sizeOfT Tryz.prog T.api_Tag) h b_9 (fun (v18 : Array Value) =>
  eqK Tryz.prog (binSem .neq T.api_Tag (.tmp 46) (.tmp 47) (.agg v17) (.agg v18)) (fun (v19 : Bool) =>
  if v19 = true then
  sliceArrK a_5 32 none none none (sizeOfT Tryz.prog T.uint8) (fun (v20 : Sl) =>
  callK Tryz.prog .bool F.tags_Mark #[.slice v20.a v20.n v20.c] (fun (v21 : Bool) h =>
  R (.bool v21) h) h)
  else
  R (.bool false) h)))
  else
  R (.bool false) h)))
  else
  R (.bool false) h
  else
  R (.bool false) h
  else
  R (.bool false) h))) h))))) h))))) h))) h
def law22_awake.ann : Ann := (.seq .leaf (.seq .leaf (.seq .leaf (.seq .leaf (.seq .leaf (.seq .leaf .leaf))))))
theorem law22_awake.eq  (R : Value → Heap → Prop) (h : Heap) : law22_awake.body  R h = evFn Tryz.prog Tryz.f9 law22_awake.ann [] R h := by kernel_rfl
theorem law22_awake.calls  {R : Value → Heap → Prop} {h : Heap} (H : law22_awake.body  R h) : HC Tryz.prog F.law22_awake #[] R h :=
  evFn_sound mixed Tryz.func9 (by kernel_rfl) (law22_awake.eq  R h ▸ H)

/-! zugzwang/zugzwangref02.schedule -/
def ref02_schedule.body (block0 : Sl) (R : Value → Heap → Prop) (h : Heap) : Prop :=
  callK Tryz.prog (Kd.pair .slice (.int .i64)) F.ref01_Words #[.slice block0.a block0.n block0.c] (fun (v1 : Sl × Int) h =>
  loopW (fun X_3 (s_2 : Sl × Int) (h : Heap) =>
  if (decide (s_2.2 < 64)) = true then
  idxK s_2.1 (IntKind.i64.wrap (s_2.2 - 16)) (sizeOfT Tryz.prog T.uint32) (fun (a_4 : Addr) =>
  idxK s_2.1 (IntKind.i64.wrap (s_2.2 - 15)) (sizeOfT Tryz.prog T.uint32) (fun (a_5 : Addr) =>
  idxK s_2.1 (IntKind.i64.wrap (s_2.2 - 7)) (sizeOfT Tryz.prog T.uint32) (fun (a_6 : Addr) =>
  idxK s_2.1 (IntKind.i64.wrap (s_2.2 - 2)) (sizeOfT Tryz.prog T.uint32) (fun (a_7 : Addr) =>
  loadK (.int .u32) h ((some a_4)) (fun (v8 : Int) =>
  loadK (.int .u32) h ((some a_5)) (fun (v9 : Int) =>
  loadK (.int .u32) h ((some a_6)) (fun (v10 : Int) =>
  loadK (.int .u32) h ((some a_7)) (fun (v11 : Int) =>
  callK Tryz.prog (.int .u32) F.ref02_small #[.int .u32 v9, .int .i64 7, .int .i64 18, .int .i64 3] (fun (v12 : Int) h =>
  stillK (.int .u32) h ((some a_7)) v11 ∧
  stillK (.int .u32) h ((some a_6)) v10 ∧
  stillK (.int .u32) h ((some a_4)) v8 ∧
  callK Tryz.prog (.int .u32) F.ref02_small #[.int .u32 v11, .int .i64 17, .int .i64 19, .int .i64 10] (fun (v13 : Int) h =>
  stillK (.int .u32) h ((some a_6)) v10 ∧
  stillK (.int .u32) h ((some a_4)) v8 ∧
  newSlK h 4 #[.int .u32 v8, .int .u32 v12, .int .u32 v10, .int .u32 v13] T.uint32 (fun v14 h =>
  callK Tryz.prog (.int .u32) F.ref01_Sum #[.slice v14.a v14.n v14.c] (fun (v15 : Int) h =>
  newSlK h 1 #[.int .u32 v15] T.uint32 (fun v16 h =>
  opK Tryz.prog .slice (Builtin.append_ #[T.sl_uint32, T.sl_uint32] T.sl_uint32 #[.slice s_2.1.a s_2.1.n s_2.1.c, .slice v16.a v16.n v16.c]) (fun (v17 : Sl) h =>
  X_3 (v17, IntKind.i64.wrap (s_2.2 + 1)) h) h)) h)) h) h))))))))
  else
  R (.slice s_2.1.a s_2.1.n s_2.1.c) h) (v1.1, 16) h) h
def ref02_schedule.ann : Ann := (.seq .leaf (.seq .leaf (.seq (.seq .leaf (.block (.loop [(3, .slice), (5, (.int .i64))] (.seq (.seq .leaf (.cond .leaf .leaf)) (.seq (.block (.any (.loc 0 (.loc 1 (.loc 2 (.loc 3 (.loc 4 (.loc 6 (.loc 7 (.loc 8 (.loc 9 (.loc 12 (.loc 13 (.loc 14 (.loc 15 (.loc 17 (.loc 18 (.loc 19 (.loc 20 (.st 5 260046848 (.st 10 264243200 (.st 16 260046848 (.st 21 264241152 (.last 11 (.last 22 (.last 23 (.last 24 (.last 25 (.last 26 (.loc 27 .done)))))))))))))))))))))))))))))) .leaf))))) (.seq .leaf .leaf))))
theorem ref02_schedule.eq (block0 : Sl) (R : Value → Heap → Prop) (h : Heap) : ref02_schedule.body block0 R h = evFn Tryz.prog Tryz.f79 ref02_schedule.ann [.slice block0.a block0.n block0.c] R h := by kernel_rfl
theorem ref02_schedule.calls {block0 : Sl} {R : Value → Heap → Prop} {h : Heap} (H : ref02_schedule.body block0 R h) : HC Tryz.prog F.ref02_schedule #[.slice block0.a block0.n block0.c] R h :=
  evFn_sound mixed Tryz.func79 (by kernel_rfl) (ref02_schedule.eq block0 R h ▸ H)

/-! zugzwang/commit.Cover -/
def commit_Cover.body (m0 : Option Addr) (nonce1 : Array Value) (rows2 : Sl) (R : Value → Heap → Prop) (h : Heap) : Prop :=
  newK h nonce1 T.api_Tag (fun (nonce_1 : Option Addr) h =>
  newK h (zerosOf Tryz.prog T.api_Tag) T.api_Tag (fun (t_2 : Option Addr) h =>
  callK Tryz.prog .ptr F.tags_Maker_Copy #[.pointer m0] (fun (v3 : Option Addr) h =>
  if v3.isNone = true then
  loadAggK (sizeOfT Tryz.prog T.api_Tag) h t_2 (fun (v4 : Array Value) =>
  storeAggK (sizeOfT Tryz.prog T.api_Tag) h t_2 v4 (fun h =>
  quietK Tryz.prog .agg (Instr.loadAt T.api_Tag (.pointer t_2)) (fun r5 =>
  R (.tuple #[.agg r5, .int .i64 1]) h) h))
  else
  loadAggK (sizeOfT Tryz.prog T.api_Tag) h nonce_1 (fun (v6 : Array Value) =>
  callK Tryz.prog .ptr F.codec_New #[] (fun (v7 : Option Addr) h =>
  stillAggK (sizeOfT Tryz.prog T.api_Tag) h nonce_1 v6 ∧
  buildK Tryz.prog (Instr.build T.commit_text #[(0, (.pointer v7))]) (fun (v8 : Array Value) =>
  callK Tryz.prog (Kd.pair .slice (.int .i64)) F.commit_text_rows #[.agg v8, .agg v6, .slice rows2.a rows2.n rows2.c] (fun (v9 : Sl × Int) h =>
  if (v9.2 != 0) = true then
  loadAggK (sizeOfT Tryz.prog T.api_Tag) h t_2 (fun (v10 : Array Value) =>
  storeAggK (sizeOfT Tryz.prog T.api_Tag) h t_2 v10 (fun h =>
  quietK Tryz.prog .agg (Instr.loadAt T.api_Tag (.pointer t_2)) (fun r11 =>
  R (.tuple #[.agg r11, .int .i64 v9.2]) h) h))
  else
  newSlK h 4 #[.int .u8 104, .int .u8 105, .int .u8 100, .int .u8 101] T.uint8 (fun v12 h =>
  opK Tryz.prog .slice (convert T.sl_uint8 T.sl_uint8 (.slice v12.a v12.n v12.c)) (fun (v13 : Sl) h =>
  newSlK h 2 #[.slice v13.a v13.n v13.c, .slice v9.1.a v9.1.n v9.1.c] T.sl_uint8 (fun v14 h =>
  callK Tryz.prog .agg F.tags_Maker_Sum #[.pointer m0, .slice v14.a v14.n v14.c] (fun (v15 : Array Value) h =>
  storeAggK (sizeOfT Tryz.prog T.api_Tag) h t_2 v15 (fun h =>
  quietK Tryz.prog .agg (Instr.loadAt T.api_Tag (.pointer t_2)) (fun r16 =>
  R (.tuple #[.agg r16, .int .i64 0]) h) h)) h)) h)) h)) h)) h))
def commit_Cover.ann : Ann := (.seq .leaf (.seq (.seq .leaf (.cond (.seq .leaf .leaf) .leaf)) (.seq (.any (.loc 3 (.st 2 1008 (.last 0 (.loc 1 (.last 4 (.loc 5 (.loc 6 (.loc 7 (.loc 8 (.loc 9 .done))))))))))) (.seq (.seq .leaf (.cond (.seq .leaf .leaf) .leaf)) (.seq .leaf .leaf)))))
theorem commit_Cover.eq (m0 : Option Addr) (nonce1 : Array Value) (rows2 : Sl) (R : Value → Heap → Prop) (h : Heap) : commit_Cover.body m0 nonce1 rows2 R h = evFn Tryz.prog Tryz.f5 commit_Cover.ann [.pointer m0, .agg nonce1, .slice rows2.a rows2.n rows2.c] R h := by kernel_rfl
theorem commit_Cover.calls {m0 : Option Addr} {nonce1 : Array Value} {rows2 : Sl} {R : Value → Heap → Prop} {h : Heap} (H : commit_Cover.body m0 nonce1 rows2 R h) : HC Tryz.prog F.commit_Cover #[.pointer m0, .agg nonce1, .slice rows2.a rows2.n rows2.c] R h :=
  evFn_sound mixed Tryz.func5 (by kernel_rfl) (commit_Cover.eq m0 nonce1 rows2 R h ▸ H)

/-! zugzwang/digest.constants -/
def digest_constants.body  (R : Value → Heap → Prop) (h : Heap) : Prop :=
  newK h (zerosOf Tryz.prog T.a64_uint32) T.a64_uint32 (fun (v1 : Option Addr) h =>
  buildK Tryz.prog (Instr.build T.a64_uint32 #[(0, (.int .u32 1116352408)), (1, (.int .u32 1899447441)), (2, (.int .u32 3049323471)), (3, (.int .u32 3921009573)), (4, (.int .u32 961987163)), (5, (.int .u32 1508970993)), (6, (.int .u32 2453635748)), (7, (.int .u32 2870763221)), (8, (.int .u32 3624381080)), (9, (.int .u32 310598401)), (10, (.int .u32 607225278)), (11, (.int .u32 1426881987)), (12, (.int .u32 1925078388)), (13, (.int .u32 2162078206)), (14, (.int .u32 2614888103)), (15, (.int .u32 3248222580)), (16, (.int .u32 3835390401)), (17, (.int .u32 4022224774)), (18, (.int .u32 264347078)), (19, (.int .u32 604807628)), (20, (.int .u32 770255983)), (21, (.int .u32 1249150122)), (22, (.int .u32 1555081692)), (23, (.int .u32 1996064986)), (24, (.int .u32 2554220882)), (25, (.int .u32 2821834349)), (26, (.int .u32 2952996808)), (27, (.int .u32 3210313671)), (28, (.int .u32 3336571891)), (29, (.int .u32 3584528711)), (30, (.int .u32 113926993)), (31, (.int .u32 338241895)), (32, (.int .u32 666307205)), (33, (.int .u32 773529912)), (34, (.int .u32 1294757372)), (35, (.int .u32 1396182291)), (36, (.int .u32 1695183700)), (37, (.int .u32 1986661051)), (38, (.int .u32 2177026350)), (39, (.int .u32 2456956037)), (40, (.int .u32 2730485921)), (41, (.int .u32 2820302411)), (42, (.int .u32 3259730800)), (43, (.int .u32 3345764771)), (44, (.int .u32 3516065817)), (45, (.int .u32 3600352804)), (46, (.int .u32 4094571909)), (47, (.int .u32 275423344)), (48, (.int .u32 430227734)), (49, (.int .u32 506948616)), (50, (.int .u32 659060556)), (51, (.int .u32 883997877)), (52, (.int .u32 958139571)), (53, (.int .u32 1322822218)), (54, (.int .u32 1537002063)), (55, (.int .u32 1747873779)), (56, (.int .u32 1955562222)), (57, (.int .u32 2024104815)), (58, (.int .u32 2227730452)), (59, (.int .u32 2361852424)), (60, (.int .u32 2428436474)), (61, (.int .u32 2756734187)), (62, (.int .u32 3204031479)), (63, (.int .u32 3329325298))]) (fun (v2 : Array Value) =>
  storeAggK (sizeOfT Tryz.prog T.a64_uint32) h v1 v2 (fun h =>
  quietK Tryz.prog .agg (Instr.loadAt T.a64_uint32 (.pointer v1)) (fun r3 =>
  R (.agg r3) h) h)))
def digest_constants.ann : Ann := (.seq .leaf (.seq .leaf .leaf))
theorem digest_constants.eq  (R : Value → Heap → Prop) (h : Heap) : digest_constants.body  R h = evFn Tryz.prog Tryz.f96 digest_constants.ann [] R h := by kernel_rfl
theorem digest_constants.calls  {R : Value → Heap → Prop} {h : Heap} (H : digest_constants.body  R h) : HC Tryz.prog F.digest_constants #[] R h :=
  evFn_sound mixed Tryz.func96 (by kernel_rfl) (digest_constants.eq  R h ▸ H)

/-! (*zugzwang/bits.row).take -/
def bits_row_take.body (r0 : Option Addr) (R : Value → Heap → Prop) (h : Heap) : Prop :=
  derefK r0 (fun (a_1 : Addr) =>
  fldK ((some a_1)) 0 (fun (a_2 : Addr) =>
  loadK .slice h ((some a_2)) (fun (v3 : Sl) =>
  idxK v3 0 (sizeOfT Tryz.prog T.uint8) (fun (a_4 : Addr) =>
  loadK (.int .u8) h ((some a_4)) (fun (v5 : Int) =>
  shiftK 24
  (derefK r0 (fun (a_6 : Addr) =>
  fldK ((some a_6)) 0 (fun (a_7 : Addr) =>
  loadK .slice h ((some a_7)) (fun (v8 : Sl) =>
  idxK v8 1 (sizeOfT Tryz.prog T.uint8) (fun (a_9 : Addr) =>
  loadK (.int .u8) h ((some a_9)) (fun (v10 : Int) =>
  shiftK 16
  (derefK r0 (fun (a_11 : Addr) =>
  fldK ((some a_11)) 0 (fun (a_12 : Addr) =>
  loadK .slice h ((some a_12)) (fun (v13 : Sl) =>
  idxK v13 2 (sizeOfT Tryz.prog T.uint8) (fun (a_14 : Addr) =>
  loadK (.int .u8) h ((some a_14)) (fun (v15 : Int) =>
  shiftK 8
  (derefK r0 (fun (a_16 : Addr) =>
  fldK ((some a_16)) 0 (fun (a_17 : Addr) =>
  loadK .slice h ((some a_17)) (fun (v18 : Sl) =>
  idxK v18 3 (sizeOfT Tryz.prog T.uint8) (fun (a_19 : Addr) =>
  loadK (.int .u8) h ((some a_19)) (fun (v20 : Int) =>
  derefK r0 (fun (a_21 : Addr) =>
  fldK ((some a_21)) 0 (fun (a_22 : Addr) =>
  loadK .slice h ((some a_22)) (fun (v23 : Sl) =>
  sliceK v23 (some 4) none none (sizeOfT Tryz.prog T.uint8) (fun (v24 : Sl) =>
  derefK r0 (fun (a_25 : Addr) =>
  fldK ((some a_25)) 0 (fun (a_26 : Addr) =>
  storeK h ((some a_26)) (.slice v24.a v24.n v24.c) (fun h =>
  R (.int .u32 (IntKind.u32.wrap (BitVec.ofInt (IntKind.bits .u32) (IntKind.u32.wrap (BitVec.ofInt (IntKind.bits .u32) (IntKind.u32.wrap (BitVec.ofInt (IntKind.bits .u32) (IntKind.u32.wrap ((IntKind.u32.wrap v5) * 2 ^ min (Int.toNat 24) (IntKind.bits .u32))) ||| BitVec.ofInt (IntKind.bits .u32) (IntKind.u32.wrap ((IntKind.u32.wrap v10) * 2 ^ min (Int.toNat 16) (IntKind.bits .u32)))).toNat) ||| BitVec.ofInt (IntKind.bits .u32) (IntKind.u32.wrap ((IntKind.u32.wrap v15) * 2 ^ min (Int.toNat 8) (IntKind.bits .u32)))).toNat) ||| BitVec.ofInt (IntKind.bits .u32) (IntKind.u32.wrap v20)).toNat)) h))))))))))))))))))))))))))))))
def bits_row_take.ann : Ann := (.seq .leaf (.seq .leaf (.seq .leaf (.seq .leaf .leaf))))
theorem bits_row_take.eq (r0 : Option Addr) (R : Value → Heap → Prop) (h : Heap) : bits_row_take.body r0 R h = evFn Tryz.prog Tryz.f107 bits_row_take.ann [.pointer r0] R h := by kernel_rfl
theorem bits_row_take.calls {r0 : Option Addr} {R : Value → Heap → Prop} {h : Heap} (H : bits_row_take.body r0 R h) : HC Tryz.prog F.bits_row_take #[.pointer r0] R h :=
  evFn_sound mixed Tryz.func107 (by kernel_rfl) (bits_row_take.eq r0 R h ▸ H)

/-! (*zugzwang/tags.Maker).Sum -/
def tags_Maker_Sum.body (m0 : Option Addr) (rows1 : Sl) (R : Value → Heap → Prop) (h : Heap) : Prop :=
  newK h (zerosOf Tryz.prog T.api_Tag) T.api_Tag (fun (v1 : Option Addr) h =>
  callK Tryz.prog .bool F.tags_Maker_there #[.pointer m0] (fun (v2 : Bool) h =>
  if (!v2) = true then
  buildK Tryz.prog (Instr.build T.api_Tag #[]) (fun (v3 : Array Value) =>
  storeAggK (sizeOfT Tryz.prog T.api_Tag) h v1 v3 (fun h =>
  quietK Tryz.prog .agg (Instr.loadAt T.api_Tag (.pointer v1)) (fun r4 =>
  R (.agg r4) h) h))
  else
  derefK m0 (fun (a_5 : Addr) =>
  fldK ((some a_5)) 1 (fun (a_6 : Addr) =>
  loadK .bool h ((some a_6)) (fun (v7 : Bool) =>
  if v7 = true then
  callK Tryz.prog .agg F.digest_Of #[.slice rows1.a rows1.n rows1.c] (fun (v8 : Array Value) h =>
  storeAggK (sizeOfT Tryz.prog T.api_Tag) h v1 v8 (fun h =>
  quietK Tryz.prog .agg (Instr.loadAt T.api_Tag (.pointer v1)) (fun r9 =>
  R (.agg r9) h) h)) h
  else
  derefK m0 (fun (a_10 : Addr) =>
  fldK ((some a_10)) 0 (fun (a_11 : Addr) =>
  loadAggK (sizeOfT Tryz.prog T.tags_book) h ((some a_11)) (fun (v12 : Array Value) =>
  callK Tryz.prog .slice F.slices_Concat_byte_byte #[.slice rows1.a rows1.n rows1.c] (fun (v13 : Sl) h =>
  stillAggK (sizeOfT Tryz.prog T.tags_book) h ((some a_11)) v12 ∧
  opK Tryz.prog .str (convert T.sl_uint8 T.string (.slice v13.a v13.n v13.c)) (fun (v14 : ByteArray) h =>
  buildK Tryz.prog (Instr.build T.tags_thing #[(0, (.int .u8 115)), (2, (.string v14))]) (fun (v15 : Array Value) =>
  callK Tryz.prog .agg F.tags_book_ask #[.agg v12, .agg v15] (fun (v16 : Array Value) h =>
  storeAggK (sizeOfT Tryz.prog T.api_Tag) h v1 v16 (fun h =>
  quietK Tryz.prog .agg (Instr.loadAt T.api_Tag (.pointer v1)) (fun r17 =>
  R (.agg r17) h) h)) h)) h) h))))))) h)
def tags_Maker_Sum.ann : Ann := (.seq .leaf (.seq (.block (.seq .leaf (.cond (.seq .leaf .leaf) (.seq .leaf (.cond (.seq .leaf .leaf) .leaf))))) (.seq (.any (.loc 0 (.loc 1 (.loc 2 (.loc 4 (.st 3 768 (.last 5 (.last 6 (.loc 7 (.last 8 (.last 9 .done))))))))))) .leaf)))
theorem tags_Maker_Sum.eq (m0 : Option Addr) (rows1 : Sl) (R : Value → Heap → Prop) (h : Heap) : tags_Maker_Sum.body m0 rows1 R h = evFn Tryz.prog Tryz.f20 tags_Maker_Sum.ann [.pointer m0, .slice rows1.a rows1.n rows1.c] R h := by kernel_rfl
theorem tags_Maker_Sum.calls {m0 : Option Addr} {rows1 : Sl} {R : Value → Heap → Prop} {h : Heap} (H : tags_Maker_Sum.body m0 rows1 R h) : HC Tryz.prog F.tags_Maker_Sum #[.pointer m0, .slice rows1.a rows1.n rows1.c] R h :=
  evFn_sound mixed Tryz.func20 (by kernel_rfl) (tags_Maker_Sum.eq m0 rows1 R h ▸ H)

/-! zugzwang/zugzwangref01.Choose -/
def ref01_Choose.body (x0 : Int) (a1 : Int) (b2 : Int) (R : Value → Heap → Prop) (h : Heap) : Prop :=
  loopW (fun X_2 (s_1 : Int × Int) (h : Heap) =>
  if (decide (s_1.2 < 32)) = true then
  callK Tryz.prog .bool F.ref01_bit #[.int .u32 x0, .int .i64 s_1.2] (fun (v3 : Bool) h =>
  if v3 = true then
  callK Tryz.prog .bool F.ref01_bit #[.int .u32 a1, .int .i64 s_1.2] (fun (v4 : Bool) h =>
  if v4 = true then
  callK Tryz.prog (.int .u32) F.ref01_place #[.int .i64 s_1.2, .bool true] (fun (v5 : Int) h =>
  X_2 (IntKind.u32.wrap (s_1.1 + v5), IntKind.i64.wrap (s_1.2 + 1)) h) h
  else
  callK Tryz.prog .bool F.ref01_bit #[.int .u32 x0, .int .i64 s_1.2] (fun (v6 : Bool) h =>
  if (!v6) = true then
  callK Tryz.prog .bool F.ref01_bit #[.int .u32 b2, .int .i64 s_1.2] (fun (v7 : Bool) h =>
  callK Tryz.prog (.int .u32) F.ref01_place #[.int .i64 s_1.2, .bool v7] (fun (v8 : Int) h =>
  X_2 (IntKind.u32.wrap (s_1.1 + v8), IntKind.i64.wrap (s_1.2 + 1)) h) h) h
  else
  callK Tryz.prog (.int .u32) F.ref01_place #[.int .i64 s_1.2, .bool false] (fun (v9 : Int) h =>
  X_2 (IntKind.u32.wrap (s_1.1 + v9), IntKind.i64.wrap (s_1.2 + 1)) h) h) h) h
  else
  callK Tryz.prog .bool F.ref01_bit #[.int .u32 x0, .int .i64 s_1.2] (fun (v10 : Bool) h =>
  if (!v10) = true then
  callK Tryz.prog .bool F.ref01_bit #[.int .u32 b2, .int .i64 s_1.2] (fun (v11 : Bool) h =>
  callK Tryz.prog (.int .u32) F.ref01_place #[.int .i64 s_1.2, .bool v11] (fun (v12 : Int) h =>
  X_2 (IntKind.u32.wrap (s_1.1 + v12), IntKind.i64.wrap (s_1.2 + 1)) h) h) h
  else
  callK Tryz.prog (.int .u32) F.ref01_place #[.int .i64 s_1.2, .bool false] (fun (v13 : Int) h =>
  X_2 (IntKind.u32.wrap (s_1.1 + v13), IntKind.i64.wrap (s_1.2 + 1)) h) h) h) h
  else
  R (.int .u32 s_1.1) h) (0, 0) h
def ref01_Choose.ann : Ann := (.seq .leaf (.seq .leaf (.seq (.seq .leaf (.block (.loop [(7, (.int .u32)), (8, (.int .i64))] (.seq (.seq .leaf (.cond .leaf .leaf)) (.seq (.block .leaf) .leaf))))) (.seq .leaf .leaf))))
theorem ref01_Choose.eq (x0 : Int) (a1 : Int) (b2 : Int) (R : Value → Heap → Prop) (h : Heap) : ref01_Choose.body x0 a1 b2 R h = evFn Tryz.prog Tryz.f82 ref01_Choose.ann [.int .u32 x0, .int .u32 a1, .int .u32 b2] R h := by kernel_rfl
theorem ref01_Choose.calls {x0 : Int} {a1 : Int} {b2 : Int} {R : Value → Heap → Prop} {h : Heap} (H : ref01_Choose.body x0 a1 b2 R h) : HC Tryz.prog F.ref01_Choose #[.int .u32 x0, .int .u32 a1, .int .u32 b2] R h :=
  evFn_sound mixed Tryz.func82 (by kernel_rfl) (ref01_Choose.eq x0 a1 b2 R h ▸ H)

/-! zugzwang/zugzwangref01.Words -/
def ref01_Words.body (b0 : Sl) (R : Value → Heap → Prop) (h : Heap) : Prop :=
  divK 4
  (if ((Int.tmod ((b0.n : Int)) 4) != 0) = true then
  R (.tuple #[.slice none 0 0, .int .i64 4]) h
  else
  loopW (fun X_2 (s_1 : Sl × Int) (h : Heap) =>
  if (decide (s_1.2 < ((b0.n : Int)))) = true then
  idxK b0 s_1.2 (sizeOfT Tryz.prog T.uint8) (fun (a_3 : Addr) =>
  idxK b0 (IntKind.i64.wrap (s_1.2 + 1)) (sizeOfT Tryz.prog T.uint8) (fun (a_4 : Addr) =>
  idxK b0 (IntKind.i64.wrap (s_1.2 + 2)) (sizeOfT Tryz.prog T.uint8) (fun (a_5 : Addr) =>
  idxK b0 (IntKind.i64.wrap (s_1.2 + 3)) (sizeOfT Tryz.prog T.uint8) (fun (a_6 : Addr) =>
  loadK (.int .u8) h ((some a_3)) (fun (v7 : Int) =>
  loadK (.int .u8) h ((some a_4)) (fun (v8 : Int) =>
  loadK (.int .u8) h ((some a_5)) (fun (v9 : Int) =>
  loadK (.int .u8) h ((some a_6)) (fun (v10 : Int) =>
  newSlK h 1 #[(.int .u32 (IntKind.u32.wrap ((IntKind.u32.wrap ((IntKind.u32.wrap ((IntKind.u32.wrap ((IntKind.u32.wrap v7) * 16777216)) + (IntKind.u32.wrap ((IntKind.u32.wrap v8) * 65536)))) + (IntKind.u32.wrap ((IntKind.u32.wrap v9) * 256)))) + (IntKind.u32.wrap v10))))] T.uint32 (fun v11 h =>
  opK Tryz.prog .slice (Builtin.append_ #[T.sl_uint32, T.sl_uint32] T.sl_uint32 #[.slice s_1.1.a s_1.1.n s_1.1.c, .slice v11.a v11.n v11.c]) (fun (v12 : Sl) h =>
  X_2 (v12, IntKind.i64.wrap (s_1.2 + 4)) h) h)))))))))
  else
  R (.tuple #[.slice s_1.1.a s_1.1.n s_1.1.c, .int .i64 0]) h) (⟨none, 0, 0⟩, 0) h)
def ref01_Words.ann : Ann := (.seq .leaf (.seq (.seq .leaf (.cond (.seq .leaf .leaf) .leaf)) (.seq .leaf (.seq (.seq .leaf (.block (.loop [(4, .slice), (5, (.int .i64))] (.seq (.seq .leaf (.cond .leaf .leaf)) (.seq (.block (.any (.loc 0 (.loc 1 (.loc 2 (.loc 3 (.loc 7 (.loc 8 (.loc 9 (.loc 10 (.loc 15 (.loc 16 (.loc 17 (.loc 18 (.loc 23 (.loc 24 (.loc 25 (.loc 26 (.st 4 8057274464 (.loc 5 (.loc 6 (.st 11 8057286656 (.loc 12 (.loc 13 (.loc 14 (.st 19 8060403712 (.loc 20 (.loc 21 (.loc 22 (.st 27 8321499136 (.loc 28 (.loc 29 (.last 30 (.last 31 (.loc 32 .done))))))))))))))))))))))))))))))))))) .leaf))))) (.seq .leaf .leaf)))))
theorem ref01_Words.eq (b0 : Sl) (R : Value → Heap → Prop) (h : Heap) : ref01_Words.body b0 R h = evFn Tryz.prog Tryz.f99 ref01_Words.ann [.slice b0.a b0.n b0.c] R h := by kernel_rfl
theorem ref01_Words.calls {b0 : Sl} {R : Value → Heap → Prop} {h : Heap} (H : ref01_Words.body b0 R h) : HC Tryz.prog F.ref01_Words #[.slice b0.a b0.n b0.c] R h :=
  evFn_sound mixed Tryz.func99 (by kernel_rfl) (ref01_Words.eq b0 R h ▸ H)

/-! zugzwang/zugzwangkit.KeptBytes -/
def kit_KeptBytes.body (out0 : Sl) (l1 : Sl) (R : Value → Heap → Prop) (h : Heap) : Prop :=
  if (((out0.n : Int)) != ((l1.n : Int))) = true then
  R (.bool false) h
  else
  sliceK out0 none (some (IntKind.i64.wrap (((l1.n : Int)) + 12))) none (sizeOfT Tryz.prog T.uint8) (fun (v1 : Sl) =>
  loopW (fun X_3 (s_2 : Int) (h : Heap) =>
  if (decide (s_2 < ((v1.n : Int)))) = true then
  if (decide (s_2 < ((l1.n : Int)))) = true then
  idxK v1 s_2 (sizeOfT Tryz.prog T.uint8) (fun (a_4 : Addr) =>
  loadK (.int .u8) h ((some a_4)) (fun (v5 : Int) =>
  idxK l1 s_2 (sizeOfT Tryz.prog T.uint8) (fun (a_6 : Addr) =>
  loadK (.int .u8) h ((some a_6)) (fun (v7 : Int) =>
  if (!(v5 == v7)) = true then
  R (.bool false) h
  else
  if (decide (s_2 ≥ ((l1.n : Int)))) = true then
  idxK v1 s_2 (sizeOfT Tryz.prog T.uint8) (fun (a_8 : Addr) =>
  loadK (.int .u8) h ((some a_8)) (fun (v9 : Int) =>
  callQ Tryz.prog (.int .u8) F.kit_markByte #[.int .i64 1, (.int .i64 (IntKind.i64.wrap (s_2 - ((l1.n : Int)))))] (fun (v10 : Int) =>
  if (!(v9 == v10)) = true then
  R (.bool false) h
  else
  X_3 (IntKind.i64.wrap (s_2 + 1)) h) h))
  else
  X_3 (IntKind.i64.wrap (s_2 + 1)) h))))
  else
  if (decide (s_2 ≥ ((l1.n : Int)))) = true then
  idxK v1 s_2 (sizeOfT Tryz.prog T.uint8) (fun (a_11 : Addr) =>
  loadK (.int .u8) h ((some a_11)) (fun (v12 : Int) =>
  callQ Tryz.prog (.int .u8) F.kit_markByte #[.int .i64 1, (.int .i64 (IntKind.i64.wrap (s_2 - ((l1.n : Int)))))] (fun (v13 : Int) =>
  if (!(v12 == v13)) = true then
  R (.bool false) h
  else
  X_3 (IntKind.i64.wrap (s_2 + 1)) h) h))
  else
  X_3 (IntKind.i64.wrap (s_2 + 1)) h
  else
  R (.bool true) h) 0 h)
def kit_KeptBytes.ann : Ann := (.seq .leaf (.seq (.seq .leaf (.cond (.seq .leaf .leaf) .leaf)) (.seq .leaf (.seq (.seq .leaf (.block (.loop [(6, (.int .i64))] (.seq (.seq .leaf (.cond .leaf .leaf)) (.seq (.block (.seq .leaf (.cond (.seq .leaf .leaf) .leaf))) .leaf))))) (.seq .leaf .leaf)))))
theorem kit_KeptBytes.eq (out0 : Sl) (l1 : Sl) (R : Value → Heap → Prop) (h : Heap) : kit_KeptBytes.body out0 l1 R h = evFn Tryz.prog Tryz.f48 kit_KeptBytes.ann [.slice out0.a out0.n out0.c, .slice l1.a l1.n l1.c] R h := by kernel_rfl
theorem kit_KeptBytes.calls {out0 : Sl} {l1 : Sl} {R : Value → Heap → Prop} {h : Heap} (H : kit_KeptBytes.body out0 l1 R h) : HC Tryz.prog F.kit_KeptBytes #[.slice out0.a out0.n out0.c, .slice l1.a l1.n l1.c] R h :=
  evFn_sound mixed Tryz.func48 (by kernel_rfl) (kit_KeptBytes.eq out0 l1 R h ▸ H)

/-! slices.Concat[[]byte,byte] -/
def slices_Concat_byte_byte.body (slices0 : Sl) (R : Value → Heap → Prop) (h : Heap) : Prop :=
  loopW (fun X_2 (s_1 : Int × Int) (h : Heap) =>
  if (decide (s_1.2 < ((slices0.n : Int)))) = true then
  idxK slices0 s_1.2 (sizeOfT Tryz.prog T.sl_uint8) (fun (a_3 : Addr) =>
  loadK .slice h ((some a_3)) (fun (v4 : Sl) =>
  if (decide ((IntKind.i64.wrap (s_1.1 + ((v4.n : Int)))) < 0)) = true then
  opK Tryz.prog .any (Instr.makeInterface T.string (.string ((⟨#[108, 101, 110, 32, 111, 117, 116, 32, 111, 102, 32, 114, 97, 110, 103, 101]⟩ : ByteArray)))) (fun (v5 : Value) h =>
  False) h
  else
  X_2 (IntKind.i64.wrap (s_1.1 + ((v4.n : Int))), IntKind.i64.wrap (s_1.2 + 1)) h))
  else
  callK Tryz.prog .slice F.slices_Grow_byte_byte #[.slice none 0 0, .int .i64 s_1.1] (fun (v6 : Sl) h =>
  loopW (fun X_8 (s_7 : Sl × Int) (h : Heap) =>
  if (decide (s_7.2 < ((slices0.n : Int)))) = true then
  idxK slices0 s_7.2 (sizeOfT Tryz.prog T.sl_uint8) (fun (a_9 : Addr) =>
  loadK .slice h ((some a_9)) (fun (v10 : Sl) =>
  opK Tryz.prog .slice (Builtin.append_ #[T.sl_uint8, T.sl_uint8] T.sl_uint8 #[.slice s_7.1.a s_7.1.n s_7.1.c, .slice v10.a v10.n v10.c]) (fun (v11 : Sl) h =>
  X_8 (v11, IntKind.i64.wrap (s_7.2 + 1)) h) h))
  else
  R (.slice s_7.1.a s_7.1.n s_7.1.c) h) (v6, 0) h) h) (0, 0) h
def slices_Concat_byte_byte.ann : Ann := (.seq .leaf (.seq .leaf (.seq (.seq .leaf (.block (.loop [(3, (.int .i64)), (11, (.int .i64))] (.seq .leaf (.seq (.cond .leaf .leaf) (.seq (.block (.seq .leaf (.seq .leaf (.seq .leaf (.cond .leaf .leaf))))) .leaf)))))) (.seq .leaf (.seq (.seq .leaf (.block (.loop [(6, .slice), (27, (.int .i64))] (.seq .leaf (.seq (.cond .leaf .leaf) (.seq (.block (.seq .leaf .leaf)) .leaf)))))) (.seq .leaf .leaf))))))
theorem slices_Concat_byte_byte.eq (slices0 : Sl) (R : Value → Heap → Prop) (h : Heap) : slices_Concat_byte_byte.body slices0 R h = evFn Tryz.prog Tryz.f44 slices_Concat_byte_byte.ann [.slice slices0.a slices0.n slices0.c] R h := by kernel_rfl
theorem slices_Concat_byte_byte.calls {slices0 : Sl} {R : Value → Heap → Prop} {h : Heap} (H : slices_Concat_byte_byte.body slices0 R h) : HC Tryz.prog F.slices_Concat_byte_byte #[.slice slices0.a slices0.n slices0.c] R h :=
  evFn_sound mixed Tryz.func44 (by kernel_rfl) (slices_Concat_byte_byte.eq slices0 R h ▸ H)

/-! zugzwang/bits.Words -/
def bits_Words.body (b0 : Sl) (R : Value → Heap → Prop) (h : Heap) : Prop :=
  divK 4
  (if ((Int.tmod ((b0.n : Int)) 4) != 0) = true then
  R (.tuple #[.slice none 0 0, .int .i64 4]) h
  else
  callK Tryz.prog .slice F.slices_Clone_byte_byte #[.slice b0.a b0.n b0.c] (fun (v1 : Sl) h =>
  buildK Tryz.prog (Instr.build T.bits_row #[(0, (.slice v1.a v1.n v1.c))]) (fun (v2 : Array Value) =>
  buildK Tryz.prog (Instr.build T.bits_reader #[(0, (.agg v2))]) (fun (v3 : Array Value) =>
  newK h (zerosOf Tryz.prog T.bits_reader) T.bits_reader (fun (r4 : Option Addr) h =>
  storeAggK (sizeOfT Tryz.prog T.bits_reader) h r4 v3 (fun h =>
  divK 4
  (loopW (fun X_6 (s_5 : Int) (h : Heap) =>
  if (decide (s_5 < (IntKind.i64.wrap (Int.tdiv ((b0.n : Int)) 4)))) = true then
  fldK r4 1 (fun (a_7 : Addr) =>
  fldK r4 0 (fun (a_8 : Addr) =>
  loadK .slice h ((some a_7)) (fun (v9 : Sl) =>
  callK Tryz.prog (.int .u32) F.bits_row_take #[(.pointer ((some a_8)))] (fun (v10 : Int) h =>
  stillK .slice h ((some a_7)) v9 ∧
  newSlK h 1 #[.int .u32 v10] T.uint32 (fun v11 h =>
  opK Tryz.prog .slice (Builtin.append_ #[T.sl_uint32, T.sl_uint32] T.sl_uint32 #[.slice v9.a v9.n v9.c, .slice v11.a v11.n v11.c]) (fun (v12 : Sl) h =>
  fldK r4 1 (fun (a_13 : Addr) =>
  storeK h ((some a_13)) (.slice v12.a v12.n v12.c) (fun h =>
  X_6 (IntKind.i64.wrap (s_5 + 1)) h))) h)) h)))
  else
  fldK r4 1 (fun (a_14 : Addr) =>
  loadK .slice h ((some a_14)) (fun (v15 : Sl) =>
  R (.tuple #[.slice v15.a v15.n v15.c, .int .i64 0]) h))) 0 h)))))) h)
def bits_Words.ann : Ann := (.seq .leaf (.seq (.seq .leaf (.cond (.seq .leaf .leaf) .leaf)) (.seq .leaf (.seq (.seq .leaf (.block (.loop [(16, (.int .i64))] (.seq .leaf (.seq (.cond .leaf .leaf) (.seq (.block (.any (.loc 0 (.loc 2 (.st 1 224 (.last 3 (.last 4 (.last 5 (.loc 6 (.last 7 .done)))))))))) .leaf)))))) (.seq .leaf .leaf)))))
theorem bits_Words.eq (b0 : Sl) (R : Value → Heap → Prop) (h : Heap) : bits_Words.body b0 R h = evFn Tryz.prog Tryz.f92 bits_Words.ann [.slice b0.a b0.n b0.c] R h := by kernel_rfl
theorem bits_Words.calls {b0 : Sl} {R : Value → Heap → Prop} {h : Heap} (H : bits_Words.body b0 R h) : HC Tryz.prog F.bits_Words #[.slice b0.a b0.n b0.c] R h :=
  evFn_sound mixed Tryz.func92 (by kernel_rfl) (bits_Words.eq b0 R h ▸ H)

/-! (zugzwang/tags.book).ask -/
def tags_book_ask.body (b0 : Array Value) (x1 : Array Value) (R : Value → Heap → Prop) (h : Heap) : Prop :=
  newK h b0 T.tags_book (fun (b_1 : Option Addr) h =>
  newK h x1 T.tags_thing (fun (x_2 : Option Addr) h =>
  newK h (zerosOf Tryz.prog T.api_Tag) T.api_Tag (fun (v3 : Option Addr) h =>
  fldK b_1 0 (fun (a_4 : Addr) =>
  loadK .map h ((some a_4)) (fun (v5 : Option Nat) =>
  loadAggK (sizeOfT Tryz.prog T.tags_thing) h x_2 (fun (v6 : Array Value) =>
  quietK Tryz.prog (Kd.pair (.int .i64) .bool) (Instr.lookup T.map_atags_thing_int (.map v5) (.agg v6) true) (fun (v7 : Int × Bool) =>
  if (!v7.2) = true then
  fldK b_1 0 (fun (a_8 : Addr) =>
  loadK .map h ((some a_8)) (fun (v9 : Option Nat) =>
  quietK Tryz.prog (.int .i64) (Builtin.len_ #[T.map_atags_thing_int] T.int #[(.map v9)]) (fun (v10 : Int) =>
  fldK b_1 0 (fun (a_11 : Addr) =>
  loadK .map h ((some a_11)) (fun (v12 : Option Nat) =>
  loadAggK (sizeOfT Tryz.prog T.tags_thing) h x_2 (fun (v13 : Array Value) =>
  unitK Tryz.prog (Instr.mapUpdate T.map_atags_thing_int (.map v12) (.agg v13) (.int .i64 v10)) (fun h =>
  callK Tryz.prog .agg F.tags_number #[.int .i64 v10] (fun (v14 : Array Value) h =>
  storeAggK (sizeOfT Tryz.prog T.api_Tag) h v3 v14 (fun h =>
  quietK Tryz.prog .agg (Instr.loadAt T.api_Tag (.pointer v3)) (fun r15 =>
  R (.agg r15) h) h)) h) h)))) h))
  else
  callK Tryz.prog .agg F.tags_number #[.int .i64 v7.1] (fun (v16 : Array Value) h =>
  storeAggK (sizeOfT Tryz.prog T.api_Tag) h v3 v16 (fun h =>
  quietK Tryz.prog .agg (Instr.loadAt T.api_Tag (.pointer v3)) (fun r17 =>
  R (.agg r17) h) h)) h) h))))))
def tags_book_ask.ann : Ann := (.seq .leaf (.seq .leaf (.seq (.seq .leaf (.cond (.seq .leaf .leaf) .leaf)) (.seq .leaf .leaf))))
theorem tags_book_ask.eq (b0 : Array Value) (x1 : Array Value) (R : Value → Heap → Prop) (h : Heap) : tags_book_ask.body b0 x1 R h = evFn Tryz.prog Tryz.f43 tags_book_ask.ann [.agg b0, .agg x1] R h := by kernel_rfl
theorem tags_book_ask.calls {b0 : Array Value} {x1 : Array Value} {R : Value → Heap → Prop} {h : Heap} (H : tags_book_ask.body b0 x1 R h) : HC Tryz.prog F.tags_book_ask #[.agg b0, .agg x1] R h :=
  evFn_sound mixed Tryz.func43 (by kernel_rfl) (tags_book_ask.eq b0 x1 R h ▸ H)

/-! zugzwang/commit.some -/
def commit_some.body (m0 : Option Addr) (is1 : Bool) (nonce2 : Array Value) (rows3 : Sl) (R : Value → Heap → Prop) (h : Heap) : Prop :=
  newK h nonce2 T.api_Tag (fun (nonce_1 : Option Addr) h =>
  newK h (zerosOf Tryz.prog T.api_Tag) T.api_Tag (fun (t_2 : Option Addr) h =>
  callK Tryz.prog .ptr F.tags_Maker_Copy #[.pointer m0] (fun (v3 : Option Addr) h =>
  if v3.isNone = true then
  loadAggK (sizeOfT Tryz.prog T.api_Tag) h t_2 (fun (v4 : Array Value) =>
  storeAggK (sizeOfT Tryz.prog T.api_Tag) h t_2 v4 (fun h =>
  quietK Tryz.prog .agg (Instr.loadAt T.api_Tag (.pointer t_2)) (fun r5 =>
  R (.tuple #[.agg r5, .int .i64 1]) h) h))
  else
  if (!is1) = true then
  loadAggK (sizeOfT Tryz.prog T.api_Tag) h t_2 (fun (v6 : Array Value) =>
  storeAggK (sizeOfT Tryz.prog T.api_Tag) h t_2 v6 (fun h =>
  quietK Tryz.prog .agg (Instr.loadAt T.api_Tag (.pointer t_2)) (fun r7 =>
  R (.tuple #[.agg r7, .int .i64 2]) h) h))
  else
  loadAggK (sizeOfT Tryz.prog T.api_Tag) h nonce_1 (fun (v8 : Array Value) =>
  callK Tryz.prog (Kd.pair .agg (.int .i64)) F.commit_Cover #[.pointer m0, .agg v8, .slice rows3.a rows3.n rows3.c] (fun (v9 : Array Value × Int) h =>
  storeAggK (sizeOfT Tryz.prog T.api_Tag) h t_2 v9.1 (fun h =>
  quietK Tryz.prog .agg (Instr.loadAt T.api_Tag (.pointer t_2)) (fun r10 =>
  R (.tuple #[.agg r10, .int .i64 v9.2]) h) h)) h)) h))
def commit_some.ann : Ann := (.seq .leaf (.seq (.block (.seq .leaf (.cond (.seq .leaf .leaf) (.seq .leaf (.cond (.seq .leaf .leaf) .leaf))))) (.seq .leaf .leaf)))
theorem commit_some.eq (m0 : Option Addr) (is1 : Bool) (nonce2 : Array Value) (rows3 : Sl) (R : Value → Heap → Prop) (h : Heap) : commit_some.body m0 is1 nonce2 rows3 R h = evFn Tryz.prog Tryz.f28 commit_some.ann [.pointer m0, .bool is1, .agg nonce2, .slice rows3.a rows3.n rows3.c] R h := by kernel_rfl
theorem commit_some.calls {m0 : Option Addr} {is1 : Bool} {nonce2 : Array Value} {rows3 : Sl} {R : Value → Heap → Prop} {h : Heap} (H : commit_some.body m0 is1 nonce2 rows3 R h) : HC Tryz.prog F.commit_some #[.pointer m0, .bool is1, .agg nonce2, .slice rows3.a rows3.n rows3.c] R h :=
  evFn_sound mixed Tryz.func28 (by kernel_rfl) (commit_some.eq m0 is1 nonce2 rows3 R h ▸ H)

/-! zugzwang/zugzwangref02.filled -/
def ref02_filled.body (b0 : Sl) (R : Value → Heap → Prop) (h : Heap) : Prop :=
  newSlK h 0 #[] T.uint8 (fun v1 h =>
  opK Tryz.prog .slice (Builtin.append_ #[T.sl_uint8, T.sl_uint8] T.sl_uint8 #[.slice v1.a v1.n v1.c, .slice b0.a b0.n b0.c]) (fun (v2 : Sl) h =>
  newSlK h 1 #[.int .u8 128] T.uint8 (fun v3 h =>
  opK Tryz.prog .slice (Builtin.append_ #[T.sl_uint8, T.sl_uint8] T.sl_uint8 #[.slice v2.a v2.n v2.c, .slice v3.a v3.n v3.c]) (fun (v4 : Sl) h =>
  loopW (fun X_6 (s_5 : Sl) (h : Heap) =>
  divK 64
  (if ((Int.tmod ((s_5.n : Int)) 64) != 56) = true then
  newSlK h 1 #[.int .u8 0] T.uint8 (fun v7 h =>
  opK Tryz.prog .slice (Builtin.append_ #[T.sl_uint8, T.sl_uint8] T.sl_uint8 #[.slice s_5.a s_5.n s_5.c, .slice v7.a v7.n v7.c]) (fun (v8 : Sl) h =>
  X_6 v8 h) h)
  else
  loopW (fun X_10 (s_9 : Sl × Int) (h : Heap) =>
  if (decide (s_9.2 ≥ 0)) = true then
  shiftK (IntKind.i64.wrap (8 * s_9.2))
  (newSlK h 1 #[(.int .u8 (IntKind.u8.wrap (Int.fdiv (IntKind.i64.wrap (8 * ((b0.n : Int)))) (2 ^ min (Int.toNat (IntKind.i64.wrap (8 * s_9.2))) (IntKind.bits .i64)))))] T.uint8 (fun v11 h =>
  opK Tryz.prog .slice (Builtin.append_ #[T.sl_uint8, T.sl_uint8] T.sl_uint8 #[.slice s_9.1.a s_9.1.n s_9.1.c, .slice v11.a v11.n v11.c]) (fun (v12 : Sl) h =>
  X_10 (v12, IntKind.i64.wrap (s_9.2 - 1)) h) h))
  else
  R (.slice s_9.1.a s_9.1.n s_9.1.c) h) (s_5, 7) h)) v4 h) h)) h)
def ref02_filled.ann : Ann := (.seq .leaf (.seq .leaf (.seq (.block (.loop [(3, .slice)] (.seq (.seq .leaf (.cond .leaf .leaf)) (.block .leaf)))) (.seq .leaf (.seq (.seq .leaf (.block (.loop [(3, .slice), (5, (.int .i64))] (.seq (.seq .leaf (.cond .leaf .leaf)) (.seq (.block .leaf) .leaf))))) (.seq .leaf .leaf))))))
theorem ref02_filled.eq (b0 : Sl) (R : Value → Heap → Prop) (h : Heap) : ref02_filled.body b0 R h = evFn Tryz.prog Tryz.f76 ref02_filled.ann [.slice b0.a b0.n b0.c] R h := by kernel_rfl
theorem ref02_filled.calls {b0 : Sl} {R : Value → Heap → Prop} {h : Heap} (H : ref02_filled.body b0 R h) : HC Tryz.prog F.ref02_filled #[.slice b0.a b0.n b0.c] R h :=
  evFn_sound mixed Tryz.func76 (by kernel_rfl) (ref02_filled.eq b0 R h ▸ H)

/-! internal/bytealg.hashStr[[]byte] -/
def internal_bytealg_hashStr_byte.body (sep0 : Sl) (R : Value → Heap → Prop) (h : Heap) : Prop :=
  loopW (fun X_2 (s_1 : Int × Int) (h : Heap) =>
  if (decide (s_1.2 < ((sep0.n : Int)))) = true then
  idxK sep0 s_1.2 (sizeOfT Tryz.prog T.uint8) (fun (a_3 : Addr) =>
  loadK (.int .u8) h ((some a_3)) (fun (v4 : Int) =>
  X_2 (IntKind.u32.wrap ((IntKind.u32.wrap (s_1.1 * 16777619)) + (IntKind.u32.wrap v4)), IntKind.i64.wrap (s_1.2 + 1)) h))
  else
  loopW (fun X_6 (s_5 : Int × Int × Int) (h : Heap) =>
  if (decide (s_5.2.2 > 0)) = true then
  if ((IntKind.i64.wrap (BitVec.ofInt (IntKind.bits .i64) s_5.2.2 &&& BitVec.ofInt (IntKind.bits .i64) 1).toNat) != 0) = true then
  shiftK 1
  (X_6 (IntKind.u32.wrap (s_5.1 * s_5.2.1), IntKind.u32.wrap (s_5.2.1 * s_5.2.1), Int.fdiv s_5.2.2 (2 ^ min (Int.toNat 1) (IntKind.bits .i64))) h)
  else
  shiftK 1
  (X_6 (s_5.1, IntKind.u32.wrap (s_5.2.1 * s_5.2.1), Int.fdiv s_5.2.2 (2 ^ min (Int.toNat 1) (IntKind.bits .i64))) h)
  else
  R (.tuple #[.int .u32 s_1.1, .int .u32 s_5.1]) h) (1, 16777619, (sep0.n : Int)) h) (0, 0) h
def internal_bytealg_hashStr_byte.ann : Ann := (.seq .leaf (.seq .leaf (.seq (.seq .leaf (.block (.loop [(4, (.int .u32)), (5, (.int .i64))] (.seq (.seq .leaf (.cond .leaf .leaf)) (.seq (.block .leaf) .leaf))))) (.seq .leaf (.seq (.seq .leaf (.block (.loop [(6, (.int .u32)), (7, (.int .u32)), (8, (.int .i64))] (.seq (.seq .leaf (.cond .leaf .leaf)) (.seq (.block (.seq (.seq .leaf (.cond .leaf .leaf)) .leaf)) .leaf))))) (.seq .leaf .leaf))))))
theorem internal_bytealg_hashStr_byte.eq (sep0 : Sl) (R : Value → Heap → Prop) (h : Heap) : internal_bytealg_hashStr_byte.body sep0 R h = evFn Tryz.prog Tryz.f106 internal_bytealg_hashStr_byte.ann [.slice sep0.a sep0.n sep0.c] R h := by kernel_rfl
theorem internal_bytealg_hashStr_byte.calls {sep0 : Sl} {R : Value → Heap → Prop} {h : Heap} (H : internal_bytealg_hashStr_byte.body sep0 R h) : HC Tryz.prog F.internal_bytealg_hashStr_byte #[.slice sep0.a sep0.n sep0.c] R h :=
  evFn_sound mixed Tryz.func106 (by kernel_rfl) (internal_bytealg_hashStr_byte.eq sep0 R h ▸ H)

/-! (*zugzwang/tags.Maker).Copy -/
def tags_Maker_Copy.body (m0 : Option Addr) (R : Value → Heap → Prop) (h : Heap) : Prop :=
  callK Tryz.prog .bool F.tags_Maker_there #[.pointer m0] (fun (v1 : Bool) h =>
  if (!v1) = true then
  R (.pointer none) h
  else
  derefK m0 (fun (a_2 : Addr) =>
  fldK ((some a_2)) 0 (fun (a_3 : Addr) =>
  fldK ((some a_3)) 0 (fun (a_4 : Addr) =>
  derefK m0 (fun (a_5 : Addr) =>
  fldK ((some a_5)) 1 (fun (a_6 : Addr) =>
  derefK m0 (fun (a_7 : Addr) =>
  fldK ((some a_7)) 2 (fun (a_8 : Addr) =>
  loadK .map h ((some a_4)) (fun (v9 : Option Nat) =>
  loadK .bool h ((some a_6)) (fun (v10 : Bool) =>
  loadK .slice h ((some a_8)) (fun (v11 : Sl) =>
  callK Tryz.prog .map F.maps_Clone_map_tags_thing_int_tags_thing_int #[(.map v9)] (fun (v12 : Option Nat) h =>
  stillK .slice h ((some a_8)) v11 ∧
  stillK .bool h ((some a_6)) v10 ∧
  buildK Tryz.prog (Instr.build T.tags_book #[(0, (.map v12))]) (fun (v13 : Array Value) =>
  callK Tryz.prog .slice F.slices_Clone_byte_byte #[.slice v11.a v11.n v11.c] (fun (v14 : Sl) h =>
  stillK .bool h ((some a_6)) v10 ∧
  buildK Tryz.prog (Instr.build T.tags_Maker #[(0, (.agg v13)), (1, (.bool v10)), (2, (.slice v14.a v14.n v14.c))]) (fun (v15 : Array Value) =>
  newK h v15 T.tags_Maker (fun (v16 : Option Addr) h =>
  R (.pointer v16) h))) h)) h))))))))))) h
def tags_Maker_Copy.ann : Ann := (.seq .leaf (.seq (.seq .leaf (.cond (.seq .leaf .leaf) .leaf)) (.seq (.any (.loc 0 (.loc 1 (.loc 2 (.loc 3 (.loc 7 (.loc 8 (.loc 9 (.loc 11 (.loc 12 (.loc 13 (.st 4 491616 (.st 10 458752 (.st 14 491520 (.last 5 (.loc 6 (.last 15 (.loc 16 (.last 17 (.loc 18 .done)))))))))))))))))))) .leaf)))
theorem tags_Maker_Copy.eq (m0 : Option Addr) (R : Value → Heap → Prop) (h : Heap) : tags_Maker_Copy.body m0 R h = evFn Tryz.prog Tryz.f17 tags_Maker_Copy.ann [.pointer m0] R h := by kernel_rfl
theorem tags_Maker_Copy.calls {m0 : Option Addr} {R : Value → Heap → Prop} {h : Heap} (H : tags_Maker_Copy.body m0 R h) : HC Tryz.prog F.tags_Maker_Copy #[.pointer m0] R h :=
  evFn_sound mixed Tryz.func17 (by kernel_rfl) (tags_Maker_Copy.eq m0 R h ▸ H)

/-! zugzwang/zugzwangref02.constants -/
def ref02_constants.body  (R : Value → Heap → Prop) (h : Heap) : Prop :=
  newSlK h 64 #[.int .u32 1116352408, .int .u32 1899447441, .int .u32 3049323471, .int .u32 3921009573, .int .u32 961987163, .int .u32 1508970993, .int .u32 2453635748, .int .u32 2870763221, .int .u32 3624381080, .int .u32 310598401, .int .u32 607225278, .int .u32 1426881987, .int .u32 1925078388, .int .u32 2162078206, .int .u32 2614888103, .int .u32 3248222580, .int .u32 3835390401, .int .u32 4022224774, .int .u32 264347078, .int .u32 604807628, .int .u32 770255983, .int .u32 1249150122, .int .u32 1555081692, .int .u32 1996064986, .int .u32 2554220882, .int .u32 2821834349, .int .u32 2952996808, .int .u32 3210313671, .int .u32 3336571891, .int .u32 3584528711, .int .u32 113926993, .int .u32 338241895, .int .u32 666307205, .int .u32 773529912, .int .u32 1294757372, .int .u32 1396182291, .int .u32 1695183700, .int .u32 1986661051, .int .u32 2177026350, .int .u32 2456956037, .int .u32 2730485921, .int .u32 2820302411, .int .u32 3259730800, .int .u32 3345764771, .int .u32 3516065817, .int .u32 3600352804, .int .u32 4094571909, .int .u32 275423344, .int .u32 430227734, .int .u32 506948616, .int .u32 659060556, .int .u32 883997877, .int .u32 958139571, .int .u32 1322822218, .int .u32 1537002063, .int .u32 1747873779, .int .u32 1955562222, .int .u32 2024104815, .int .u32 2227730452, .int .u32 2361852424, .int .u32 2428436474, .int .u32 2756734187, .int .u32 3204031479, .int .u32 3329325298] T.uint32 (fun v1 h =>
  R (.slice v1.a v1.n v1.c) h)
def ref02_constants.ann : Ann := (.seq .leaf (.seq .leaf .leaf))
theorem ref02_constants.eq  (R : Value → Heap → Prop) (h : Heap) : ref02_constants.body  R h = evFn Tryz.prog Tryz.f77 ref02_constants.ann [] R h := by kernel_rfl
theorem ref02_constants.calls  {R : Value → Heap → Prop} {h : Heap} (H : ref02_constants.body  R h) : HC Tryz.prog F.ref02_constants #[] R h :=
  evFn_sound mixed Tryz.func77 (by kernel_rfl) (ref02_constants.eq  R h ▸ H)

/-! zugzwang/zugzwangref04.Number -/
def ref04_Number.body (n0 : Int) (R : Value → Heap → Prop) (h : Heap) : Prop :=
  newK h (zerosOf Tryz.prog T.api_Tag) T.api_Tag (fun (v1 : Option Addr) h =>
  newK h (zerosOf Tryz.prog T.api_Tag) T.api_Tag (fun (t_2 : Option Addr) h =>
  newSlK h 8 #[.int .u8 122, .int .u8 117, .int .u8 103, .int .u8 122, .int .u8 119, .int .u8 97, .int .u8 110, .int .u8 103] T.uint8 (fun v3 h =>
  opK Tryz.prog .slice (convert T.sl_uint8 T.sl_uint8 (.slice v3.a v3.n v3.c)) (fun (v4 : Sl) h =>
  callK Tryz.prog .slice F.ref04_eight #[.int .i64 n0] (fun (v5 : Sl) h =>
  opK Tryz.prog .slice (Builtin.append_ #[T.sl_uint8, T.sl_uint8] T.sl_uint8 #[.slice v4.a v4.n v4.c, .slice v5.a v5.n v5.c]) (fun (v6 : Sl) h =>
  loopW (fun X_8 (s_7 : Int) (h : Heap) =>
  if (decide (s_7 < ((v6.n : Int)))) = true then
  idxK v6 s_7 (sizeOfT Tryz.prog T.uint8) (fun (a_9 : Addr) =>
  loadK (.int .u8) h ((some a_9)) (fun (v10 : Int) =>
  idxArrK t_2 32 s_7 (sizeOfT Tryz.prog T.uint8) (fun (a_11 : Addr) =>
  storeK h ((some a_11)) (.int .u8 v10) (fun h =>
  X_8 (IntKind.i64.wrap (s_7 + 1)) h))))
  else
  loadAggK (sizeOfT Tryz.prog T.api_Tag) h t_2 (fun (v12 : Array Value) =>
  storeAggK (sizeOfT Tryz.prog T.api_Tag) h v1 v12 (fun h =>
  quietK Tryz.prog .agg (Instr.loadAt T.api_Tag (.pointer v1)) (fun r13 =>
  R (.agg r13) h) h))) 0 h) h) h) h)))
def ref04_Number.ann : Ann := (.seq .leaf (.seq .leaf (.seq .leaf (.seq (.seq .leaf (.block (.loop [(5, (.int .i64))] (.seq (.seq .leaf (.cond .leaf .leaf)) (.seq (.block .leaf) .leaf))))) (.seq .leaf .leaf)))))
theorem ref04_Number.eq (n0 : Int) (R : Value → Heap → Prop) (h : Heap) : ref04_Number.body n0 R h = evFn Tryz.prog Tryz.f85 ref04_Number.ann [.int .i64 n0] R h := by kernel_rfl
theorem ref04_Number.calls {n0 : Int} {R : Value → Heap → Prop} {h : Heap} (H : ref04_Number.body n0 R h) : HC Tryz.prog F.ref04_Number #[.int .i64 n0] R h :=
  evFn_sound mixed Tryz.func85 (by kernel_rfl) (ref04_Number.eq n0 R h ▸ H)

/-! (zugzwang/commit.text).rows -/
def commit_text_rows.body (t0 : Array Value) (nonce1 : Array Value) (rows2 : Sl) (R : Value → Heap → Prop) (h : Heap) : Prop :=
  newK h t0 T.commit_text (fun (t_1 : Option Addr) (h : Heap) =>
  newK h nonce1 T.api_Tag (fun (nonce_2 : Option Addr) (h : Heap) =>
  fldK t_1 0 (fun (a_3 : Addr) =>
  loadK .ptr h ((some a_3)) (fun (v_4 : Option Addr) =>
  callK Tryz.prog (.int .i64) F.codec_Writer_Run #[(.pointer v_4), (.slice rows2.a rows2.n rows2.c)] (fun (v_5 : Int) (h : Heap) =>
  fldK t_1 0 (fun (a_6 : Addr) =>
  loadK .ptr h ((some a_6)) (fun (v_7 : Option Addr) =>
  loadAggK (sizeOfT Tryz.prog T.api_Tag) h nonce_2 (fun (v_8 : Array Value) =>
  opK Tryz.prog .slice (Instr.buildSlice T.sl_api_Tag 1 #[(0, (.agg v_8))]) (fun (v_9 : Sl) (h : Heap) =>
  callK Tryz.prog (.int .i64) F.codec_Writer_Tag #[(.pointer v_7), (.slice v_9.a v_9.n v_9.c)] (fun (v_10 : Int) (h : Heap) =>
  fldK t_1 0 (fun (a_11 : Addr) =>
  loadK .ptr h ((some a_11)) (fun (v_12 : Option Addr) =>
  callK Tryz.prog (Kd.pair .slice (.int .i64)) F.codec_Writer_Out #[(.pointer v_12)] (fun (v_13 : Sl × Int) (h : Heap) =>
  R (.tuple #[(.slice v_13.1.a v_13.1.n v_13.1.c), (.int .i64 v_13.2)]) h) h))) h) h)))) h))))
def commit_text_rows.ann : Ann := (.seq .leaf (.seq .leaf (.seq .leaf (.seq .leaf .leaf))))
theorem commit_text_rows.eq (t0 : Array Value) (nonce1 : Array Value) (rows2 : Sl) (R : Value → Heap → Prop) (h : Heap) : commit_text_rows.body t0 nonce1 rows2 R h = evFn Tryz.prog Tryz.f19 commit_text_rows.ann [(.agg t0), (.agg nonce1), (.slice rows2.a rows2.n rows2.c)] R h := by kernel_rfl
theorem commit_text_rows.calls {t0 : Array Value} {nonce1 : Array Value} {rows2 : Sl} {R : Value → Heap → Prop} {h : Heap} (H : commit_text_rows.body t0 nonce1 rows2 R h) : HC Tryz.prog F.commit_text_rows #[(.agg t0), (.agg nonce1), (.slice rows2.a rows2.n rows2.c)] R h :=
  evFn_sound mixed Tryz.func19 (by kernel_rfl) (commit_text_rows.eq t0 nonce1 rows2 R h ▸ H)

/-! zugzwang/zugzwangref01.Mix -/
def ref01_Mix.body (x0 : Int) (turns1 : Sl) (R : Value → Heap → Prop) (h : Heap) : Prop :=
  loopW (fun X_2 (s_1 : Int × Int) (h : Heap) =>
  if (decide (s_1.2 < 32)) = true then
  loopW (fun X_4 (s_3 : Bool × Int) (h : Heap) =>
  if (decide (s_3.2 < ((turns1.n : Int)))) = true then
  idxK turns1 s_3.2 (sizeOfT Tryz.prog T.int) (fun (a_5 : Addr) =>
  loadK (.int .i64) h ((some a_5)) (fun (v_6 : Int) =>
  callK Tryz.prog (.int .i64) F.ref01_low #[(.int .i64 v_6)] (fun (v_7 : Int) (h : Heap) =>
  divK 32
  (callK Tryz.prog .bool F.ref01_bit #[(.int .u32 x0), (.int .i64 (Int.tmod (IntKind.i64.wrap (s_1.2 + v_7)) 32))] (fun (v_8 : Bool) (h : Heap) =>
  if v_8 = true then
  X_4 (!s_3.1, IntKind.i64.wrap (s_3.2 + 1)) h
  else
  X_4 (s_3.1, IntKind.i64.wrap (s_3.2 + 1)) h) h)) h))
  else
  callK Tryz.prog (.int .u32) F.ref01_place #[(.int .i64 s_1.2), (.bool s_3.1)] (fun (v_9 : Int) (h : Heap) =>
  X_2 (IntKind.u32.wrap (s_1.1 + v_9), IntKind.i64.wrap (s_1.2 + 1)) h) h) (false, 0) h
  else
  R (.int .u32 s_1.1) h) (0, 0) h
def ref01_Mix.ann : Ann := (.seq .leaf (.seq .leaf (.seq (.seq .leaf (.block (.loop [(5, (.int .u32)), (6, (.int .i64))] (.seq (.seq .leaf (.cond .leaf .leaf)) (.seq (.block (.seq .leaf (.seq (.seq .leaf (.block (.loop [(7, .bool), (8, (.int .i64))] (.seq (.seq .leaf (.cond .leaf .leaf)) (.seq (.block (.seq .leaf (.cond .leaf .leaf))) .leaf))))) .leaf))) .leaf))))) (.seq .leaf .leaf))))
theorem ref01_Mix.eq (x0 : Int) (turns1 : Sl) (R : Value → Heap → Prop) (h : Heap) : ref01_Mix.body x0 turns1 R h = evFn Tryz.prog Tryz.f81 ref01_Mix.ann [(.int .u32 x0), (.slice turns1.a turns1.n turns1.c)] R h := by kernel_rfl
theorem ref01_Mix.calls {x0 : Int} {turns1 : Sl} {R : Value → Heap → Prop} {h : Heap} (H : ref01_Mix.body x0 turns1 R h) : HC Tryz.prog F.ref01_Mix #[(.int .u32 x0), (.slice turns1.a turns1.n turns1.c)] R h :=
  evFn_sound mixed Tryz.func81 (by kernel_rfl) (ref01_Mix.eq x0 turns1 R h ▸ H)

/-! (*zugzwang/digest.Hasher).ended -/
def digest_Hasher_ended.body (h0 : Option Addr) (R : Value → Heap → Prop) (h : Heap) : Prop :=
  newK h (zerosOf Tryz.prog T.api_Tag) T.api_Tag (fun (t_1 : Option Addr) h =>
  derefK h0 (fun (a_2 : Addr) =>
  fldK ((some a_2)) 9 (fun (a_3 : Addr) =>
  loadK (.int .i64) h ((some a_3)) (fun (v4 : Int) =>
  callK Tryz.prog .slice F.digest_fill #[.int .i64 v4] (fun (v5 : Sl) h =>
  newSlK h 1 #[.slice v5.a v5.n v5.c] T.sl_uint8 (fun v6 h =>
  callK Tryz.prog .unit F.digest_Hasher_all #[.pointer h0, .slice v6.a v6.n v6.c] (fun (v7 : Unit) h =>
  sliceArrK t_1 32 none none none (sizeOfT Tryz.prog T.uint8) (fun (v8 : Sl) =>
  derefK h0 (fun (a_9 : Addr) =>
  fldK ((some a_9)) 0 (fun (a_10 : Addr) =>
  sliceArrK ((some a_10)) 8 none none none (sizeOfT Tryz.prog T.uint32) (fun (v11 : Sl) =>
  callK Tryz.prog .slice F.bits_Bytes #[.slice v11.a v11.n v11.c] (fun (v12 : Sl) h =>
  opK Tryz.prog (.int .i64) (Builtin.copy_ #[T.sl_uint8, T.sl_uint8] T.int #[.slice v8.a v8.n v8.c, .slice v12.a v12.n v12.c]) (fun (v13 : Int) h =>
  loadAggK (sizeOfT Tryz.prog T.api_Tag) h t_1 (fun (v14 : Array Value) =>
  storeAggK (sizeOfT Tryz.prog T.api_Tag) h t_1 v14 (fun h =>
  quietK Tryz.prog .agg (Instr.loadAt T.api_Tag (.pointer t_1)) (fun r15 =>
  R (.agg r15) h) h))) h) h))))) h)) h))))
def digest_Hasher_ended.ann : Ann := (.seq .leaf (.seq .leaf (.seq (.any (.loc 0 (.loc 1 (.loc 2 (.loc 3 (.loc 4 (.last 5 (.last 6 .done)))))))) (.seq .leaf .leaf))))
theorem digest_Hasher_ended.eq (h0 : Option Addr) (R : Value → Heap → Prop) (h : Heap) : digest_Hasher_ended.body h0 R h = evFn Tryz.prog Tryz.f61 digest_Hasher_ended.ann [.pointer h0] R h := by kernel_rfl
theorem digest_Hasher_ended.calls {h0 : Option Addr} {R : Value → Heap → Prop} {h : Heap} (H : digest_Hasher_ended.body h0 R h) : HC Tryz.prog F.digest_Hasher_ended #[.pointer h0] R h :=
  evFn_sound mixed Tryz.func61 (by kernel_rfl) (digest_Hasher_ended.eq h0 R h ▸ H)

/-! zugzwang/commit.OpenCoin -/
def commit_OpenCoin.body (m0 : Option Addr) (t1 : Array Value) (game2 : Array Value) (player3 : Int) (side4 : Int) (nonce5 : Array Value) (R : Value → Heap → Prop) (h : Heap) : Prop :=
  newK h #[(.pointer m0)] T.p_tags_Maker (fun (m_1 : Option Addr) (h : Heap) =>
  newK h t1 T.api_Tag (fun (t_2 : Option Addr) (h : Heap) =>
  newK h game2 T.api_Tag (fun (game_3 : Option Addr) (h : Heap) =>
  newK h #[(.int .i64 player3)] T.int (fun (player_4 : Option Addr) (h : Heap) =>
  newK h #[(.int .i64 side4)] T.int (fun (side_5 : Option Addr) (h : Heap) =>
  newK h nonce5 T.api_Tag (fun (nonce_6 : Option Addr) (h : Heap) =>
  loadAggK (sizeOfT Tryz.prog T.api_Tag) h t_2 (fun (v_7 : Array Value) =>
  callK Tryz.prog (.int .i64) F.commit_opened #[(.agg v_7), ((Value.func (.func F.commit_OpenCoin_1) #[] #[(.pointer m_1), (.pointer game_3), (.pointer player_4), (.pointer side_5), (.pointer nonce_6)]))] (fun (v_8 : Int) (h : Heap) =>
  R (.int .i64 v_8) h) h)))))))
def commit_OpenCoin.ann : Ann := (.seq .leaf (.seq .leaf .leaf))
theorem commit_OpenCoin.eq (m0 : Option Addr) (t1 : Array Value) (game2 : Array Value) (player3 : Int) (side4 : Int) (nonce5 : Array Value) (R : Value → Heap → Prop) (h : Heap) : commit_OpenCoin.body m0 t1 game2 player3 side4 nonce5 R h = evFn Tryz.prog Tryz.f14 commit_OpenCoin.ann [(.pointer m0), (.agg t1), (.agg game2), (.int .i64 player3), (.int .i64 side4), (.agg nonce5)] R h := by kernel_rfl
theorem commit_OpenCoin.calls {m0 : Option Addr} {t1 : Array Value} {game2 : Array Value} {player3 : Int} {side4 : Int} {nonce5 : Array Value} {R : Value → Heap → Prop} {h : Heap} (H : commit_OpenCoin.body m0 t1 game2 player3 side4 nonce5 R h) : HC Tryz.prog F.commit_OpenCoin #[(.pointer m0), (.agg t1), (.agg game2), (.int .i64 player3), (.int .i64 side4), (.agg nonce5)] R h :=
  evFn_sound mixed Tryz.func14 (by kernel_rfl) (commit_OpenCoin.eq m0 t1 game2 player3 side4 nonce5 R h ▸ H)

/-! zugzwang/commit.OpenMove -/
def commit_OpenMove.body (m0 : Option Addr) (t1 : Array Value) (game2 : Array Value) (number3 : Int) (x4 : Array Value) (nonce5 : Array Value) (R : Value → Heap → Prop) (h : Heap) : Prop :=
  newK h #[(.pointer m0)] T.p_tags_Maker (fun (m_1 : Option Addr) (h : Heap) =>
  newK h t1 T.api_Tag (fun (t_2 : Option Addr) (h : Heap) =>
  newK h game2 T.api_Tag (fun (game_3 : Option Addr) (h : Heap) =>
  newK h #[(.int .i64 number3)] T.int (fun (number_4 : Option Addr) (h : Heap) =>
  newK h x4 T.api_Move (fun (x_5 : Option Addr) (h : Heap) =>
  newK h nonce5 T.api_Tag (fun (nonce_6 : Option Addr) (h : Heap) =>
  loadAggK (sizeOfT Tryz.prog T.api_Tag) h t_2 (fun (v_7 : Array Value) =>
  callK Tryz.prog (.int .i64) F.commit_opened #[(.agg v_7), ((Value.func (.func F.commit_OpenMove_1) #[] #[(.pointer m_1), (.pointer game_3), (.pointer number_4), (.pointer x_5), (.pointer nonce_6)]))] (fun (v_8 : Int) (h : Heap) =>
  R (.int .i64 v_8) h) h)))))))
def commit_OpenMove.ann : Ann := (.seq .leaf (.seq .leaf .leaf))
theorem commit_OpenMove.eq (m0 : Option Addr) (t1 : Array Value) (game2 : Array Value) (number3 : Int) (x4 : Array Value) (nonce5 : Array Value) (R : Value → Heap → Prop) (h : Heap) : commit_OpenMove.body m0 t1 game2 number3 x4 nonce5 R h = evFn Tryz.prog Tryz.f16 commit_OpenMove.ann [(.pointer m0), (.agg t1), (.agg game2), (.int .i64 number3), (.agg x4), (.agg nonce5)] R h := by kernel_rfl
theorem commit_OpenMove.calls {m0 : Option Addr} {t1 : Array Value} {game2 : Array Value} {number3 : Int} {x4 : Array Value} {nonce5 : Array Value} {R : Value → Heap → Prop} {h : Heap} (H : commit_OpenMove.body m0 t1 game2 number3 x4 nonce5 R h) : HC Tryz.prog F.commit_OpenMove #[(.pointer m0), (.agg t1), (.agg game2), (.int .i64 number3), (.agg x4), (.agg nonce5)] R h :=
  evFn_sound mixed Tryz.func16 (by kernel_rfl) (commit_OpenMove.eq m0 t1 game2 number3 x4 nonce5 R h ▸ H)

/-! (*zugzwang/codec.Writer).Out -/
def codec_Writer_Out.body (w0 : Option Addr) (R : Value → Heap → Prop) (h : Heap) : Prop :=
  joinW (fun (s_1 : Bool) (h : Heap) =>
  if s_1 = true then
  R (.tuple #[(.slice none 0 0), (.int .i64 1)]) h
  else
  derefK w0 (fun (a_2 : Addr) =>
  fldK ((some a_2)) 0 (fun (a_3 : Addr) =>
  callK Tryz.prog .bool F.codec_state_sound #[(.pointer ((some a_3)))] (fun (v_4 : Bool) (h : Heap) =>
  if (!v_4) = true then
  derefK w0 (fun (a_5 : Addr) =>
  fldK ((some a_5)) 0 (fun (a_6 : Addr) =>
  fldK ((some a_6)) 1 (fun (a_7 : Addr) =>
  loadK (.int .i64) h ((some a_7)) (fun (v_8 : Int) =>
  R (.tuple #[(.slice none 0 0), (.int .i64 v_8)]) h))))
  else
  derefK w0 (fun (a_9 : Addr) =>
  fldK ((some a_9)) 2 (fun (a_10 : Addr) =>
  loadK .slice h ((some a_10)) (fun (v_11 : Sl) =>
  callK Tryz.prog .slice F.slices_Clone_byte_byte #[(.slice v_11.a v_11.n v_11.c)] (fun (v_12 : Sl) (h : Heap) =>
  R (.tuple #[(.slice v_12.a v_12.n v_12.c), (.int .i64 0)]) h) h)))) h)))
  (fun J_13 =>
  if w0.isNone = true then
  J_13 true h
  else
  derefK w0 (fun (a_14 : Addr) =>
  fldK ((some a_14)) 0 (fun (a_15 : Addr) =>
  fldK ((some a_15)) 0 (fun (a_16 : Addr) =>
  loadK .bool h ((some a_16)) (fun (v_17 : Bool) =>
  J_13 (!v_17) h)))))
def codec_Writer_Out.ann : Ann := (.seq .leaf (.seq (.block (.join [(4, .bool)] .leaf (.cond (.seq .leaf .leaf) (.seq .leaf (.cond (.seq .leaf .leaf) .leaf))))) (.seq .leaf .leaf)))
theorem codec_Writer_Out.eq (w0 : Option Addr) (R : Value → Heap → Prop) (h : Heap) : codec_Writer_Out.body w0 R h = evFn Tryz.prog Tryz.f41 codec_Writer_Out.ann [(.pointer w0)] R h := by kernel_rfl
theorem codec_Writer_Out.calls {w0 : Option Addr} {R : Value → Heap → Prop} {h : Heap} (H : codec_Writer_Out.body w0 R h) : HC Tryz.prog F.codec_Writer_Out #[(.pointer w0)] R h :=
  evFn_sound mixed Tryz.func41 (by kernel_rfl) (codec_Writer_Out.eq w0 R h ▸ H)

/-! (*zugzwang/zugzwangref04.Maker).Sum -/
def ref04_Maker_Sum.body (m0 : Option Addr) (b1 : Sl) (R : Value → Heap → Prop) (h : Heap) : Prop :=
  newK h (zerosOf Tryz.prog T.api_Tag) T.api_Tag (fun (v_1 : Option Addr) (h : Heap) =>
  derefK m0 (fun (a_2 : Addr) =>
  fldK ((some a_2)) 0 (fun (a_3 : Addr) =>
  loadK .bool h ((some a_3)) (fun (v_4 : Bool) =>
  if v_4 = true then
  callK Tryz.prog .agg F.ref02_Of #[(.slice b1.a b1.n b1.c)] (fun (v_5 : Array Value) (h : Heap) =>
  storeAggK (sizeOfT Tryz.prog T.api_Tag) h v_1 v_5 (fun (h : Heap) =>
  quietK Tryz.prog .agg (Instr.loadAt T.api_Tag (.pointer v_1)) (fun (r_6 : Array Value) =>
  R (.agg r_6) h) h)) h
  else
  opK Tryz.prog .str (convert T.sl_uint8 T.string (.slice b1.a b1.n b1.c)) (fun (v_7 : ByteArray) (h : Heap) =>
  buildK Tryz.prog (Instr.build T.zugzwangref04_Thing #[(0, (.int .i64 0)), (2, (.string v_7))]) (fun (v_8 : Array Value) =>
  callK Tryz.prog .agg F.ref04_Maker_ask #[(.pointer m0), (.agg v_8)] (fun (v_9 : Array Value) (h : Heap) =>
  storeAggK (sizeOfT Tryz.prog T.api_Tag) h v_1 v_9 (fun (h : Heap) =>
  quietK Tryz.prog .agg (Instr.loadAt T.api_Tag (.pointer v_1)) (fun (r_10 : Array Value) =>
  R (.agg r_10) h) h)) h)) h))))
def ref04_Maker_Sum.ann : Ann := (.seq .leaf (.seq (.seq .leaf (.cond (.seq .leaf .leaf) .leaf)) (.seq .leaf .leaf)))
theorem ref04_Maker_Sum.eq (m0 : Option Addr) (b1 : Sl) (R : Value → Heap → Prop) (h : Heap) : ref04_Maker_Sum.body m0 b1 R h = evFn Tryz.prog Tryz.f46 ref04_Maker_Sum.ann [(.pointer m0), (.slice b1.a b1.n b1.c)] R h := by kernel_rfl
theorem ref04_Maker_Sum.calls {m0 : Option Addr} {b1 : Sl} {R : Value → Heap → Prop} {h : Heap} (H : ref04_Maker_Sum.body m0 b1 R h) : HC Tryz.prog F.ref04_Maker_Sum #[(.pointer m0), (.slice b1.a b1.n b1.c)] R h :=
  evFn_sound mixed Tryz.func46 (by kernel_rfl) (ref04_Maker_Sum.eq m0 b1 R h ▸ H)

/-! zugzwang/commit.OpenMove$1 -/
def commit_OpenMove_1.body (x0 : Option Addr) (x1 : Option Addr) (x2 : Option Addr) (x3 : Option Addr) (x4 : Option Addr) (R : Value → Heap → Prop) (h : Heap) : Prop :=
  newK h (zerosOf Tryz.prog T.api_Tag) T.api_Tag (fun (v_1 : Option Addr) (h : Heap) =>
  loadK .ptr h x0 (fun (v_2 : Option Addr) =>
  loadAggK (sizeOfT Tryz.prog T.api_Tag) h x1 (fun (v_3 : Array Value) =>
  loadK (.int .i64) h x2 (fun (v_4 : Int) =>
  loadAggK (sizeOfT Tryz.prog T.api_Move) h x3 (fun (v_5 : Array Value) =>
  loadAggK (sizeOfT Tryz.prog T.api_Tag) h x4 (fun (v_6 : Array Value) =>
  callK Tryz.prog (Kd.pair .agg (.int .i64)) F.commit_Move #[(.pointer v_2), (.agg v_3), (.int .i64 v_4), (.agg v_5), (.agg v_6)] (fun (v_7 : Array Value × Int) (h : Heap) =>
  storeAggK (sizeOfT Tryz.prog T.api_Tag) h v_1 v_7.1 (fun (h : Heap) =>
  quietK Tryz.prog .agg (Instr.loadAt T.api_Tag (.pointer v_1)) (fun (r_8 : Array Value) =>
  R (.tuple #[(.agg r_8), (.int .i64 v_7.2)]) h) h)) h))))))
def commit_OpenMove_1.ann : Ann := (.seq .leaf (.seq .leaf .leaf))
theorem commit_OpenMove_1.eq (x0 : Option Addr) (x1 : Option Addr) (x2 : Option Addr) (x3 : Option Addr) (x4 : Option Addr) (R : Value → Heap → Prop) (h : Heap) : commit_OpenMove_1.body x0 x1 x2 x3 x4 R h = evFn Tryz.prog Tryz.f36 commit_OpenMove_1.ann [(.pointer x0), (.pointer x1), (.pointer x2), (.pointer x3), (.pointer x4)] R h := by kernel_rfl
theorem commit_OpenMove_1.calls {x0 : Option Addr} {x1 : Option Addr} {x2 : Option Addr} {x3 : Option Addr} {x4 : Option Addr} {R : Value → Heap → Prop} {h : Heap} (H : commit_OpenMove_1.body x0 x1 x2 x3 x4 R h) : HC Tryz.prog F.commit_OpenMove_1 #[(.pointer x0), (.pointer x1), (.pointer x2), (.pointer x3), (.pointer x4)] R h :=
  evFn_sound mixed Tryz.func36 (by kernel_rfl) (commit_OpenMove_1.eq x0 x1 x2 x3 x4 R h ▸ H)

/-! zugzwang/zugzwangref01.Bytes -/
def ref01_Bytes.body (words0 : Sl) (R : Value → Heap → Prop) (h : Heap) : Prop :=
  loopW (fun X_2 (s_1 : Sl × Int) (h : Heap) =>
  if (decide (s_1.2 < ((words0.n : Int)))) = true then
  loopW (fun X_4 (s_3 : Sl × Int) (h : Heap) =>
  if (decide (s_3.2 ≥ 0)) = true then
  idxK words0 s_1.2 (sizeOfT Tryz.prog T.uint32) (fun (a_5 : Addr) =>
  loadK (.int .u32) h ((some a_5)) (fun (v_6 : Int) =>
  shiftK (IntKind.i64.wrap (8 * s_3.2))
  (divK 256
  (newSlK h 1 #[(.int .u8 (IntKind.u8.wrap (Int.tmod (Int.fdiv v_6 (2 ^ min (Int.toNat (IntKind.i64.wrap (8 * s_3.2))) (IntKind.bits .u32))) 256)))] T.uint8 (fun (v_7 : Sl) (h : Heap) =>
  opK Tryz.prog .slice (Builtin.append_ #[T.sl_uint8, T.sl_uint8] T.sl_uint8 #[(.slice s_3.1.a s_3.1.n s_3.1.c), (.slice v_7.a v_7.n v_7.c)]) (fun (v_8 : Sl) (h : Heap) =>
  X_4 (v_8, IntKind.i64.wrap (s_3.2 - 1)) h) h)))))
  else
  X_2 (s_3.1, IntKind.i64.wrap (s_1.2 + 1)) h) (s_1.1, 3) h
  else
  R (.slice s_1.1.a s_1.1.n s_1.1.c) h) (⟨none, 0, 0⟩, 0) h
def ref01_Bytes.ann : Ann := (.seq .leaf (.seq .leaf (.seq (.seq .leaf (.block (.loop [(3, .slice), (4, (.int .i64))] (.seq (.seq .leaf (.cond .leaf .leaf)) (.seq (.block (.seq .leaf (.block (.loop [(3, .slice), (5, (.int .i64))] (.seq (.seq .leaf (.cond .leaf .leaf)) (.seq (.block .leaf) .leaf)))))) .leaf))))) (.seq .leaf .leaf))))
theorem ref01_Bytes.eq (words0 : Sl) (R : Value → Heap → Prop) (h : Heap) : ref01_Bytes.body words0 R h = evFn Tryz.prog Tryz.f84 ref01_Bytes.ann [(.slice words0.a words0.n words0.c)] R h := by kernel_rfl
theorem ref01_Bytes.calls {words0 : Sl} {R : Value → Heap → Prop} {h : Heap} (H : ref01_Bytes.body words0 R h) : HC Tryz.prog F.ref01_Bytes #[(.slice words0.a words0.n words0.c)] R h :=
  evFn_sound mixed Tryz.func84 (by kernel_rfl) (ref01_Bytes.eq words0 R h ▸ H)

/-! zugzwang/zugzwangref01.Most -/
def ref01_Most.body (words0 : Sl) (R : Value → Heap → Prop) (h : Heap) : Prop :=
  loopW (fun X_2 (s_1 : Int × Int) (h : Heap) =>
  if (decide (s_1.2 < 32)) = true then
  loopW (fun X_4 (s_3 : Int × Int) (h : Heap) =>
  if (decide (s_3.2 < ((words0.n : Int)))) = true then
  idxK words0 s_3.2 (sizeOfT Tryz.prog T.uint32) (fun (a_5 : Addr) =>
  loadK (.int .u32) h ((some a_5)) (fun (v_6 : Int) =>
  callK Tryz.prog .bool F.ref01_bit #[(.int .u32 v_6), (.int .i64 s_1.2)] (fun (v_7 : Bool) (h : Heap) =>
  if v_7 = true then
  X_4 (IntKind.i64.wrap (s_3.1 + 1), IntKind.i64.wrap (s_3.2 + 1)) h
  else
  X_4 (IntKind.i64.wrap (s_3.1 - 1), IntKind.i64.wrap (s_3.2 + 1)) h) h))
  else
  callK Tryz.prog (.int .u32) F.ref01_place #[(.int .i64 s_1.2), (.bool (decide (s_3.1 > 0)))] (fun (v_8 : Int) (h : Heap) =>
  X_2 (IntKind.u32.wrap (s_1.1 + v_8), IntKind.i64.wrap (s_1.2 + 1)) h) h) (0, 0) h
  else
  R (.int .u32 s_1.1) h) (0, 0) h
def ref01_Most.ann : Ann := (.seq .leaf (.seq .leaf (.seq (.seq .leaf (.block (.loop [(3, (.int .u32)), (4, (.int .i64))] (.seq (.seq .leaf (.cond .leaf .leaf)) (.seq (.block (.seq .leaf (.seq (.seq .leaf (.block (.loop [(5, (.int .i64)), (6, (.int .i64))] (.seq (.seq .leaf (.cond .leaf .leaf)) (.seq (.block (.seq .leaf (.cond .leaf .leaf))) .leaf))))) .leaf))) .leaf))))) (.seq .leaf .leaf))))
theorem ref01_Most.eq (words0 : Sl) (R : Value → Heap → Prop) (h : Heap) : ref01_Most.body words0 R h = evFn Tryz.prog Tryz.f83 ref01_Most.ann [(.slice words0.a words0.n words0.c)] R h := by kernel_rfl
theorem ref01_Most.calls {words0 : Sl} {R : Value → Heap → Prop} {h : Heap} (H : ref01_Most.body words0 R h) : HC Tryz.prog F.ref01_Most #[(.slice words0.a words0.n words0.c)] R h :=
  evFn_sound mixed Tryz.func83 (by kernel_rfl) (ref01_Most.eq words0 R h ▸ H)

/-! zugzwang/commit.OpenCoin$1 -/
def commit_OpenCoin_1.body (x0 : Option Addr) (x1 : Option Addr) (x2 : Option Addr) (x3 : Option Addr) (x4 : Option Addr) (R : Value → Heap → Prop) (h : Heap) : Prop :=
  newK h (zerosOf Tryz.prog T.api_Tag) T.api_Tag (fun (v_1 : Option Addr) (h : Heap) =>
  loadK .ptr h x0 (fun (v_2 : Option Addr) =>
  loadAggK (sizeOfT Tryz.prog T.api_Tag) h x1 (fun (v_3 : Array Value) =>
  loadK (.int .i64) h x2 (fun (v_4 : Int) =>
  loadK (.int .i64) h x3 (fun (v_5 : Int) =>
  loadAggK (sizeOfT Tryz.prog T.api_Tag) h x4 (fun (v_6 : Array Value) =>
  callK Tryz.prog (Kd.pair .agg (.int .i64)) F.commit_Coin #[(.pointer v_2), (.agg v_3), (.int .i64 v_4), (.int .i64 v_5), (.agg v_6)] (fun (v_7 : Array Value × Int) (h : Heap) =>
  storeAggK (sizeOfT Tryz.prog T.api_Tag) h v_1 v_7.1 (fun (h : Heap) =>
  quietK Tryz.prog .agg (Instr.loadAt T.api_Tag (.pointer v_1)) (fun (r_8 : Array Value) =>
  R (.tuple #[(.agg r_8), (.int .i64 v_7.2)]) h) h)) h))))))
def commit_OpenCoin_1.ann : Ann := (.seq .leaf (.seq .leaf .leaf))
theorem commit_OpenCoin_1.eq (x0 : Option Addr) (x1 : Option Addr) (x2 : Option Addr) (x3 : Option Addr) (x4 : Option Addr) (R : Value → Heap → Prop) (h : Heap) : commit_OpenCoin_1.body x0 x1 x2 x3 x4 R h = evFn Tryz.prog Tryz.f35 commit_OpenCoin_1.ann [(.pointer x0), (.pointer x1), (.pointer x2), (.pointer x3), (.pointer x4)] R h := by kernel_rfl
theorem commit_OpenCoin_1.calls {x0 : Option Addr} {x1 : Option Addr} {x2 : Option Addr} {x3 : Option Addr} {x4 : Option Addr} {R : Value → Heap → Prop} {h : Heap} (H : commit_OpenCoin_1.body x0 x1 x2 x3 x4 R h) : HC Tryz.prog F.commit_OpenCoin_1 #[(.pointer x0), (.pointer x1), (.pointer x2), (.pointer x3), (.pointer x4)] R h :=
  evFn_sound mixed Tryz.func35 (by kernel_rfl) (commit_OpenCoin_1.eq x0 x1 x2 x3 x4 R h ▸ H)

/-! zugzwang/zugzwangkit.LentBytes -/
def kit_LentBytes.body (l0 : Sl) (R : Value → Heap → Prop) (h : Heap) : Prop :=
  opK Tryz.prog .slice (Instr.makeSlice T.sl_uint8 (.int .i64 0) (.int .i64 (IntKind.i64.wrap (((l0.n : Int)) + 12)))) (fun (v_1 : Sl) (h : Heap) =>
  opK Tryz.prog .slice (Builtin.append_ #[T.sl_uint8, T.sl_uint8] T.sl_uint8 #[(.slice v_1.a v_1.n v_1.c), (.slice l0.a l0.n l0.c)]) (fun (v_2 : Sl) (h : Heap) =>
  loopW (fun X_4 (s_3 : Sl × Int) (h : Heap) =>
  if (decide (s_3.2 < 12)) = true then
  callK Tryz.prog (.int .u8) F.kit_markByte #[(.int .i64 1), (.int .i64 s_3.2)] (fun (v_5 : Int) (h : Heap) =>
  newSlK h 1 #[(.int .u8 v_5)] T.uint8 (fun (v_6 : Sl) (h : Heap) =>
  opK Tryz.prog .slice (Builtin.append_ #[T.sl_uint8, T.sl_uint8] T.sl_uint8 #[(.slice s_3.1.a s_3.1.n s_3.1.c), (.slice v_6.a v_6.n v_6.c)]) (fun (v_7 : Sl) (h : Heap) =>
  X_4 (v_7, IntKind.i64.wrap (s_3.2 + 1)) h) h)) h
  else
  sliceK s_3.1 none (some ((l0.n : Int))) none (sizeOfT Tryz.prog T.uint8) (fun (v_8 : Sl) =>
  R (.slice v_8.a v_8.n v_8.c) h)) (v_2, 0) h) h) h
def kit_LentBytes.ann : Ann := (.seq .leaf (.seq .leaf (.seq .leaf (.seq (.seq .leaf (.block (.loop [(3, .slice), (4, (.int .i64))] (.seq (.seq .leaf (.cond .leaf .leaf)) (.seq (.block .leaf) .leaf))))) (.seq .leaf .leaf)))))
theorem kit_LentBytes.eq (l0 : Sl) (R : Value → Heap → Prop) (h : Heap) : kit_LentBytes.body l0 R h = evFn Tryz.prog Tryz.f45 kit_LentBytes.ann [(.slice l0.a l0.n l0.c)] R h := by kernel_rfl
theorem kit_LentBytes.calls {l0 : Sl} {R : Value → Heap → Prop} {h : Heap} (H : kit_LentBytes.body l0 R h) : HC Tryz.prog F.kit_LentBytes #[(.slice l0.a l0.n l0.c)] R h :=
  evFn_sound mixed Tryz.func45 (by kernel_rfl) (kit_LentBytes.eq l0 R h ▸ H)

/-! zugzwang/zugzwangref18.move -/
def ref18_move.body (m0 : Array Value) (R : Value → Heap → Prop) (h : Heap) : Prop :=
  newK h m0 T.api_Move (fun (m_1 : Option Addr) (h : Heap) =>
  fldK m_1 0 (fun (a_2 : Addr) =>
  loadK (.int .i64) h ((some a_2)) (fun (v_3 : Int) =>
  if (decide (v_3 ≥ 0)) = true then
  fldK m_1 0 (fun (a_4 : Addr) =>
  loadK (.int .i64) h ((some a_4)) (fun (v_5 : Int) =>
  if (decide (v_5 < 64)) = true then
  fldK m_1 1 (fun (a_6 : Addr) =>
  loadK (.int .i64) h ((some a_6)) (fun (v_7 : Int) =>
  if (decide (v_7 ≥ 0)) = true then
  fldK m_1 1 (fun (a_8 : Addr) =>
  loadK (.int .i64) h ((some a_8)) (fun (v_9 : Int) =>
  if (decide (v_9 < 64)) = true then
  fldK m_1 2 (fun (a_10 : Addr) =>
  loadK (.int .i64) h ((some a_10)) (fun (v_11 : Int) =>
  if (v_11 == 0) = true then
  R (.bool true) h
  else
  fldK m_1 2 (fun (a_12 : Addr) =>
  loadK (.int .i64) h ((some a_12)) (fun (v_13 : Int) =>
  if (decide (v_13 ≥ 2)) = true then
  fldK m_1 2 (fun (a_14 : Addr) =>
  loadK (.int .i64) h ((some a_14)) (fun (v_15 : Int) =>
  R (.bool (decide (v_15 ≤ 5))) h))
  else
  R (.bool false) h))))
  else
  R (.bool false) h))
  else
  R (.bool false) h))
  else
  R (.bool false) h))
  else
  R (.bool false) h)))
def ref18_move.ann : Ann := (.seq .leaf (.seq .leaf .leaf))
theorem ref18_move.eq (m0 : Array Value) (R : Value → Heap → Prop) (h : Heap) : ref18_move.body m0 R h = evFn Tryz.prog Tryz.f51 ref18_move.ann [(.agg m0)] R h := by kernel_rfl
theorem ref18_move.calls {m0 : Array Value} {R : Value → Heap → Prop} {h : Heap} (H : ref18_move.body m0 R h) : HC Tryz.prog F.ref18_move #[(.agg m0)] R h :=
  evFn_sound mixed Tryz.func51 (by kernel_rfl) (ref18_move.eq m0 R h ▸ H)

/-! slices.Grow[[]byte,byte] -/
def slices_Grow_byte_byte.body (s0 : Sl) (n1 : Int) (R : Value → Heap → Prop) (h : Heap) : Prop :=
  if (decide (n1 < 0)) = true then
  opK Tryz.prog .any (Instr.makeInterface T.string (.string ((⟨#[99, 97, 110, 110, 111, 116, 32, 98, 101, 32, 110, 101, 103, 97, 116, 105, 118, 101]⟩ : ByteArray)))) (fun (v_1 : Value) (h : Heap) =>
  False) h
  else
  if (decide ((IntKind.i64.wrap (n1 - (IntKind.i64.wrap (((s0.c : Int)) - ((s0.n : Int)))))) > 0)) = true then
  sliceK s0 none (some ((s0.c : Int))) none (sizeOfT Tryz.prog T.uint8) (fun (v_2 : Sl) =>
  opK Tryz.prog .slice (Builtin.append_ #[T.sl_uint8, T.int] T.sl_uint8 #[(.slice v_2.a v_2.n v_2.c), (.int .i64 (IntKind.i64.wrap (n1 - (IntKind.i64.wrap (((s0.c : Int)) - ((s0.n : Int)))))))]) (fun (v_3 : Sl) (h : Heap) =>
  sliceK v_3 none (some ((s0.n : Int))) none (sizeOfT Tryz.prog T.uint8) (fun (v_4 : Sl) =>
  R (.slice v_4.a v_4.n v_4.c) h)) h)
  else
  R (.slice s0.a s0.n s0.c) h
def slices_Grow_byte_byte.ann : Ann := (.seq .leaf (.seq (.seq .leaf (.cond .leaf .leaf)) (.seq (.seq .leaf (.seq .leaf (.cond .leaf .leaf))) (.seq .leaf .leaf))))
theorem slices_Grow_byte_byte.eq (s0 : Sl) (n1 : Int) (R : Value → Heap → Prop) (h : Heap) : slices_Grow_byte_byte.body s0 n1 R h = evFn Tryz.prog Tryz.f63 slices_Grow_byte_byte.ann [(.slice s0.a s0.n s0.c), (.int .i64 n1)] R h := by kernel_rfl
theorem slices_Grow_byte_byte.calls {s0 : Sl} {n1 : Int} {R : Value → Heap → Prop} {h : Heap} (H : slices_Grow_byte_byte.body s0 n1 R h) : HC Tryz.prog F.slices_Grow_byte_byte #[(.slice s0.a s0.n s0.c), (.int .i64 n1)] R h :=
  evFn_sound mixed Tryz.func63 (by kernel_rfl) (slices_Grow_byte_byte.eq s0 n1 R h ▸ H)

/-! zugzwang/zugzwangref01.Shift -/
def ref01_Shift.body (x0 : Int) (n1 : Int) (R : Value → Heap → Prop) (h : Heap) : Prop :=
  if (decide (n1 < 0)) = true then
  R (.int .u32 x0) h
  else
  loopW (fun X_2 (s_1 : Int × Int) (h : Heap) =>
  if (decide (s_1.2 < 32)) = true then
  if (decide (n1 < (IntKind.i64.wrap (32 - s_1.2)))) = true then
  callK Tryz.prog .bool F.ref01_bit #[(.int .u32 x0), (.int .i64 (IntKind.i64.wrap (s_1.2 + n1)))] (fun (v_3 : Bool) (h : Heap) =>
  callK Tryz.prog (.int .u32) F.ref01_place #[(.int .i64 s_1.2), (.bool v_3)] (fun (v_4 : Int) (h : Heap) =>
  X_2 (IntKind.u32.wrap (s_1.1 + v_4), IntKind.i64.wrap (s_1.2 + 1)) h) h) h
  else
  callK Tryz.prog (.int .u32) F.ref01_place #[(.int .i64 s_1.2), (.bool false)] (fun (v_5 : Int) (h : Heap) =>
  X_2 (IntKind.u32.wrap (s_1.1 + v_5), IntKind.i64.wrap (s_1.2 + 1)) h) h
  else
  R (.int .u32 s_1.1) h) (0, 0) h
def ref01_Shift.ann : Ann := (.seq .leaf (.seq (.seq .leaf (.cond (.seq .leaf .leaf) .leaf)) (.seq .leaf (.seq (.seq .leaf (.block (.loop [(5, (.int .u32)), (6, (.int .i64))] (.seq (.seq .leaf (.cond .leaf .leaf)) (.seq (.block .leaf) .leaf))))) (.seq .leaf .leaf)))))
theorem ref01_Shift.eq (x0 : Int) (n1 : Int) (R : Value → Heap → Prop) (h : Heap) : ref01_Shift.body x0 n1 R h = evFn Tryz.prog Tryz.f110 ref01_Shift.ann [(.int .u32 x0), (.int .i64 n1)] R h := by kernel_rfl
theorem ref01_Shift.calls {x0 : Int} {n1 : Int} {R : Value → Heap → Prop} {h : Heap} (H : ref01_Shift.body x0 n1 R h) : HC Tryz.prog F.ref01_Shift #[(.int .u32 x0), (.int .i64 n1)] R h :=
  evFn_sound mixed Tryz.func110 (by kernel_rfl) (ref01_Shift.eq x0 n1 R h ▸ H)

/-! zugzwang/zugzwangkit.KeptByteRows -/
def kit_KeptByteRows.body (in0 : Sl) (l1 : Sl) (R : Value → Heap → Prop) (h : Heap) : Prop :=
  if (((in0.n : Int)) != ((l1.n : Int))) = true then
  R (.bool false) h
  else
  loopW (fun X_2 (s_1 : Int) (h : Heap) =>
  if (decide (s_1 < ((l1.n : Int)))) = true then
  idxK in0 s_1 (sizeOfT Tryz.prog T.sl_uint8) (fun (a_3 : Addr) =>
  loadK .slice h ((some a_3)) (fun (v_4 : Sl) =>
  idxK l1 s_1 (sizeOfT Tryz.prog T.sl_uint8) (fun (a_5 : Addr) =>
  loadK .slice h ((some a_5)) (fun (v_6 : Sl) =>
  callQ Tryz.prog .bool F.kit_KeptBytes #[(.slice v_4.a v_4.n v_4.c), (.slice v_6.a v_6.n v_6.c)] (fun (v_7 : Bool) =>
  if (!v_7) = true then
  R (.bool false) h
  else
  X_2 (IntKind.i64.wrap (s_1 + 1)) h) h))))
  else
  R (.bool true) h) 0 h
def kit_KeptByteRows.ann : Ann := (.seq .leaf (.seq (.seq .leaf (.cond (.seq .leaf .leaf) .leaf)) (.seq (.seq .leaf (.block (.loop [(5, (.int .i64))] (.seq (.seq .leaf (.cond .leaf .leaf)) (.seq (.block (.seq .leaf (.cond (.seq .leaf .leaf) .leaf))) .leaf))))) (.seq .leaf .leaf))))
theorem kit_KeptByteRows.eq (in0 : Sl) (l1 : Sl) (R : Value → Heap → Prop) (h : Heap) : kit_KeptByteRows.body in0 l1 R h = evFn Tryz.prog Tryz.f26 kit_KeptByteRows.ann [(.slice in0.a in0.n in0.c), (.slice l1.a l1.n l1.c)] R h := by kernel_rfl
theorem kit_KeptByteRows.calls {in0 : Sl} {l1 : Sl} {R : Value → Heap → Prop} {h : Heap} (H : kit_KeptByteRows.body in0 l1 R h) : HC Tryz.prog F.kit_KeptByteRows #[(.slice in0.a in0.n in0.c), (.slice l1.a l1.n l1.c)] R h :=
  evFn_sound mixed Tryz.func26 (by kernel_rfl) (kit_KeptByteRows.eq in0 l1 R h ▸ H)

/-! zugzwang/msg.move -/
def msg_move.body (m0 : Array Value) (R : Value → Heap → Prop) (h : Heap) : Prop :=
  newK h m0 T.api_Move (fun (m_1 : Option Addr) (h : Heap) =>
  fldK m_1 0 (fun (a_2 : Addr) =>
  loadK (.int .i64) h ((some a_2)) (fun (v_3 : Int) =>
  callV Tryz.prog .bool ((Value.func (.func F.msg_move_1) #[] #[])) #[(.int .i64 v_3)] (fun (v_4 : Bool) (h : Heap) =>
  if v_4 = true then
  fldK m_1 1 (fun (a_5 : Addr) =>
  loadK (.int .i64) h ((some a_5)) (fun (v_6 : Int) =>
  callV Tryz.prog .bool ((Value.func (.func F.msg_move_1) #[] #[])) #[(.int .i64 v_6)] (fun (v_7 : Bool) (h : Heap) =>
  if v_7 = true then
  fldK m_1 2 (fun (a_8 : Addr) =>
  loadK (.int .i64) h ((some a_8)) (fun (v_9 : Int) =>
  if (v_9 == 0) = true then
  R (.bool true) h
  else
  fldK m_1 2 (fun (a_10 : Addr) =>
  loadK (.int .i64) h ((some a_10)) (fun (v_11 : Int) =>
  if (decide (v_11 ≥ 2)) = true then
  fldK m_1 2 (fun (a_12 : Addr) =>
  loadK (.int .i64) h ((some a_12)) (fun (v_13 : Int) =>
  R (.bool (decide (v_13 ≤ 5))) h))
  else
  R (.bool false) h))))
  else
  R (.bool false) h) h))
  else
  R (.bool false) h) h)))
def msg_move.ann : Ann := (.seq .leaf (.seq .leaf (.seq .leaf .leaf)))
theorem msg_move.eq (m0 : Array Value) (R : Value → Heap → Prop) (h : Heap) : msg_move.body m0 R h = evFn Tryz.prog Tryz.f68 msg_move.ann [(.agg m0)] R h := by kernel_rfl
theorem msg_move.calls {m0 : Array Value} {R : Value → Heap → Prop} {h : Heap} (H : msg_move.body m0 R h) : HC Tryz.prog F.msg_move #[(.agg m0)] R h :=
  evFn_sound mixed Tryz.func68 (by kernel_rfl) (msg_move.eq m0 R h ▸ H)

/-! math/bits.RotateLeft32 -/
def math_bits_RotateLeft32.body (x0 : Int) (k1 : Int) (R : Value → Heap → Prop) (h : Heap) : Prop :=
  shiftK (IntKind.u64.wrap (BitVec.ofInt (IntKind.bits .u64) (IntKind.u64.wrap k1) &&& BitVec.ofInt (IntKind.bits .u64) 31).toNat)
  (shiftK (IntKind.u64.wrap (32 - (IntKind.u64.wrap (BitVec.ofInt (IntKind.bits .u64) (IntKind.u64.wrap k1) &&& BitVec.ofInt (IntKind.bits .u64) 31).toNat)))
  (R (.int .u32 (IntKind.u32.wrap (BitVec.ofInt (IntKind.bits .u32) (IntKind.u32.wrap (x0 * 2 ^ min (Int.toNat (IntKind.u64.wrap (BitVec.ofInt (IntKind.bits .u64) (IntKind.u64.wrap k1) &&& BitVec.ofInt (IntKind.bits .u64) 31).toNat)) (IntKind.bits .u32))) ||| BitVec.ofInt (IntKind.bits .u32) (Int.fdiv x0 (2 ^ min (Int.toNat (IntKind.u64.wrap (32 - (IntKind.u64.wrap (BitVec.ofInt (IntKind.bits .u64) (IntKind.u64.wrap k1) &&& BitVec.ofInt (IntKind.bits .u64) 31).toNat)))) (IntKind.bits .u32)))).toNat)) h))
def math_bits_RotateLeft32.ann : Ann := (.seq .leaf (.seq .leaf (.seq .leaf .leaf)))
theorem math_bits_RotateLeft32.eq (x0 : Int) (k1 : Int) (R : Value → Heap → Prop) (h : Heap) : math_bits_RotateLeft32.body x0 k1 R h = evFn Tryz.prog Tryz.f111 math_bits_RotateLeft32.ann [(.int .u32 x0), (.int .i64 k1)] R h := by kernel_rfl
theorem math_bits_RotateLeft32.calls {x0 : Int} {k1 : Int} {R : Value → Heap → Prop} {h : Heap} (H : math_bits_RotateLeft32.body x0 k1 R h) : HC Tryz.prog F.math_bits_RotateLeft32 #[(.int .u32 x0), (.int .i64 k1)] R h :=
  evFn_sound mixed Tryz.func111 (by kernel_rfl) (math_bits_RotateLeft32.eq x0 k1 R h ▸ H)

/-! zugzwang/digest.fill -/
def digest_fill.body (n0 : Int) (R : Value → Heap → Prop) (h : Heap) : Prop :=
  divK 64
  (divK 64
  (opK Tryz.prog .slice (Instr.makeSlice T.sl_uint8 (.int .i64 (IntKind.i64.wrap (1 + (Int.tmod (IntKind.i64.wrap (119 - (Int.tmod n0 64))) 64)))) (.int .i64 128)) (fun (v_1 : Sl) (h : Heap) =>
  idxK v_1 0 (sizeOfT Tryz.prog T.uint8) (fun (a_2 : Addr) =>
  storeK h ((some a_2)) (.int .u8 128) (fun (h : Heap) =>
  shiftK 32
  (newSlK h 2 #[(.int .u32 (IntKind.u32.wrap (Int.fdiv (IntKind.u64.wrap (IntKind.i64.wrap (8 * n0))) (2 ^ min (Int.toNat 32) (IntKind.bits .u64))))), (.int .u32 (IntKind.u32.wrap (IntKind.u64.wrap (IntKind.i64.wrap (8 * n0)))))] T.uint32 (fun (v_3 : Sl) (h : Heap) =>
  callK Tryz.prog .slice F.bits_Bytes #[(.slice v_3.a v_3.n v_3.c)] (fun (v_4 : Sl) (h : Heap) =>
  opK Tryz.prog .slice (Builtin.append_ #[T.sl_uint8, T.sl_uint8] T.sl_uint8 #[(.slice v_1.a v_1.n v_1.c), (.slice v_4.a v_4.n v_4.c)]) (fun (v_5 : Sl) (h : Heap) =>
  R (.slice v_5.a v_5.n v_5.c) h) h) h))))) h))
def digest_fill.ann : Ann := (.seq .leaf (.seq .leaf (.seq .leaf (.seq .leaf (.seq .leaf .leaf)))))
theorem digest_fill.eq (n0 : Int) (R : Value → Heap → Prop) (h : Heap) : digest_fill.body n0 R h = evFn Tryz.prog Tryz.f72 digest_fill.ann [(.int .i64 n0)] R h := by kernel_rfl
theorem digest_fill.calls {n0 : Int} {R : Value → Heap → Prop} {h : Heap} (H : digest_fill.body n0 R h) : HC Tryz.prog F.digest_fill #[(.int .i64 n0)] R h :=
  evFn_sound mixed Tryz.func72 (by kernel_rfl) (digest_fill.eq n0 R h ▸ H)

/-! zugzwang/commit.Open -/
def commit_Open.body (m0 : Option Addr) (t1 : Array Value) (nonce2 : Array Value) (rows3 : Sl) (R : Value → Heap → Prop) (h : Heap) : Prop :=
  newK h #[(.pointer m0)] T.p_tags_Maker (fun (m_1 : Option Addr) (h : Heap) =>
  newK h t1 T.api_Tag (fun (t_2 : Option Addr) (h : Heap) =>
  newK h nonce2 T.api_Tag (fun (nonce_3 : Option Addr) (h : Heap) =>
  newK h #[(.slice rows3.a rows3.n rows3.c)] T.sl_sl_uint8 (fun (rows_4 : Option Addr) (h : Heap) =>
  loadAggK (sizeOfT Tryz.prog T.api_Tag) h t_2 (fun (v_5 : Array Value) =>
  callK Tryz.prog (.int .i64) F.commit_opened #[(.agg v_5), ((Value.func (.func F.commit_Open_1) #[] #[(.pointer m_1), (.pointer nonce_3), (.pointer rows_4)]))] (fun (v_6 : Int) (h : Heap) =>
  R (.int .i64 v_6) h) h)))))
def commit_Open.ann : Ann := (.seq .leaf (.seq .leaf .leaf))
theorem commit_Open.eq (m0 : Option Addr) (t1 : Array Value) (nonce2 : Array Value) (rows3 : Sl) (R : Value → Heap → Prop) (h : Heap) : commit_Open.body m0 t1 nonce2 rows3 R h = evFn Tryz.prog Tryz.f25 commit_Open.ann [(.pointer m0), (.agg t1), (.agg nonce2), (.slice rows3.a rows3.n rows3.c)] R h := by kernel_rfl
theorem commit_Open.calls {m0 : Option Addr} {t1 : Array Value} {nonce2 : Array Value} {rows3 : Sl} {R : Value → Heap → Prop} {h : Heap} (H : commit_Open.body m0 t1 nonce2 rows3 R h) : HC Tryz.prog F.commit_Open #[(.pointer m0), (.agg t1), (.agg nonce2), (.slice rows3.a rows3.n rows3.c)] R h :=
  evFn_sound mixed Tryz.func25 (by kernel_rfl) (commit_Open.eq m0 t1 nonce2 rows3 R h ▸ H)

/-! (*zugzwang/bits.row).put -/
def bits_row_put.body (r0 : Option Addr) (w1 : Int) (R : Value → Heap → Prop) (h : Heap) : Prop :=
  derefK r0 (fun (a_1 : Addr) =>
  fldK ((some a_1)) 0 (fun (a_2 : Addr) =>
  loadK .slice h ((some a_2)) (fun (v_3 : Sl) =>
  shiftK 24
  (shiftK 16
  (shiftK 8
  (newSlK h 4 #[(.int .u8 (IntKind.u8.wrap (Int.fdiv w1 (2 ^ min (Int.toNat 24) (IntKind.bits .u32))))), (.int .u8 (IntKind.u8.wrap (Int.fdiv w1 (2 ^ min (Int.toNat 16) (IntKind.bits .u32))))), (.int .u8 (IntKind.u8.wrap (Int.fdiv w1 (2 ^ min (Int.toNat 8) (IntKind.bits .u32))))), (.int .u8 (IntKind.u8.wrap w1))] T.uint8 (fun (v_4 : Sl) (h : Heap) =>
  opK Tryz.prog .slice (Builtin.append_ #[T.sl_uint8, T.sl_uint8] T.sl_uint8 #[(.slice v_3.a v_3.n v_3.c), (.slice v_4.a v_4.n v_4.c)]) (fun (v_5 : Sl) (h : Heap) =>
  derefK r0 (fun (a_6 : Addr) =>
  fldK ((some a_6)) 0 (fun (a_7 : Addr) =>
  storeK h ((some a_7)) (.slice v_5.a v_5.n v_5.c) (fun (h : Heap) =>
  R (.tuple #[]) h)))) h)))))))
def bits_row_put.ann : Ann := .leaf
theorem bits_row_put.eq (r0 : Option Addr) (w1 : Int) (R : Value → Heap → Prop) (h : Heap) : bits_row_put.body r0 w1 R h = evFn Tryz.prog Tryz.f98 bits_row_put.ann [(.pointer r0), (.int .u32 w1)] R h := by kernel_rfl
theorem bits_row_put.calls {r0 : Option Addr} {w1 : Int} {R : Value → Heap → Prop} {h : Heap} (H : bits_row_put.body r0 w1 R h) : HC Tryz.prog F.bits_row_put #[(.pointer r0), (.int .u32 w1)] R h :=
  evFn_sound mixed Tryz.func98 (by kernel_rfl) (bits_row_put.eq r0 w1 R h ▸ H)

/-! zugzwang/commit.opened -/
def commit_opened.body (t0 : Array Value) (ask1 : Value) (R : Value → Heap → Prop) (h : Heap) : Prop :=
  newK h t0 T.api_Tag (fun (t_1 : Option Addr) (h : Heap) =>
  callV Tryz.prog (Kd.pair .agg (.int .i64)) ask1 #[] (fun (v_2 : Array Value × Int) (h : Heap) =>
  newK h (zerosOf Tryz.prog T.api_Tag) T.api_Tag (fun (x_3 : Option Addr) (h : Heap) =>
  storeAggK (sizeOfT Tryz.prog T.api_Tag) h x_3 v_2.1 (fun (h : Heap) =>
  if (v_2.2 != 0) = true then
  R (.int .i64 v_2.2) h
  else
  loadAggK (sizeOfT Tryz.prog T.api_Tag) h x_3 (fun (v_4 : Array Value) =>
  loadAggK (sizeOfT Tryz.prog T.api_Tag) h t_1 (fun (v_5 : Array Value) =>
  eqK Tryz.prog (binSem .neq T.api_Tag (.tmp 17) (.tmp 18) (.agg v_4) (.agg v_5)) (fun (v_6 : Bool) =>
  if v_6 = true then
  R (.int .i64 7) h
  else
  R (.int .i64 0) h)))))) h)
def commit_opened.ann : Ann := (.seq .leaf (.seq .leaf (.seq (.block (.seq .leaf (.cond (.seq .leaf .leaf) (.seq .leaf (.cond (.seq .leaf .leaf) .leaf))))) (.seq .leaf .leaf))))
theorem commit_opened.eq (t0 : Array Value) (ask1 : Value) (R : Value → Heap → Prop) (h : Heap) : commit_opened.body t0 ask1 R h = evFn Tryz.prog Tryz.f34 commit_opened.ann [(.agg t0), ask1] R h := by kernel_rfl
theorem commit_opened.calls {t0 : Array Value} {ask1 : Value} {R : Value → Heap → Prop} {h : Heap} (H : commit_opened.body t0 ask1 R h) : HC Tryz.prog F.commit_opened #[(.agg t0), ask1] R h :=
  evFn_sound mixed Tryz.func34 (by kernel_rfl) (commit_opened.eq t0 ask1 R h ▸ H)

/-! zugzwang/zugzwangkit.LentByteRows -/
def kit_LentByteRows.body (l0 : Sl) (R : Value → Heap → Prop) (h : Heap) : Prop :=
  loopW (fun X_2 (s_1 : Sl × Int) (h : Heap) =>
  if (decide (s_1.2 < ((l0.n : Int)))) = true then
  idxK l0 s_1.2 (sizeOfT Tryz.prog T.sl_uint8) (fun (a_3 : Addr) =>
  loadK .slice h ((some a_3)) (fun (v_4 : Sl) =>
  callK Tryz.prog .slice F.kit_LentBytes #[(.slice v_4.a v_4.n v_4.c)] (fun (v_5 : Sl) (h : Heap) =>
  newSlK h 1 #[(.slice v_5.a v_5.n v_5.c)] T.sl_uint8 (fun (v_6 : Sl) (h : Heap) =>
  opK Tryz.prog .slice (Builtin.append_ #[T.sl_sl_uint8, T.sl_sl_uint8] T.sl_sl_uint8 #[(.slice s_1.1.a s_1.1.n s_1.1.c), (.slice v_6.a v_6.n v_6.c)]) (fun (v_7 : Sl) (h : Heap) =>
  X_2 (v_7, IntKind.i64.wrap (s_1.2 + 1)) h) h)) h))
  else
  R (.slice s_1.1.a s_1.1.n s_1.1.c) h) (⟨none, 0, 0⟩, 0) h
def kit_LentByteRows.ann : Ann := (.seq .leaf (.seq .leaf (.seq (.seq .leaf (.block (.loop [(3, .slice), (4, (.int .i64))] (.seq (.seq .leaf (.cond .leaf .leaf)) (.seq (.block .leaf) .leaf))))) (.seq .leaf .leaf))))
theorem kit_LentByteRows.eq (l0 : Sl) (R : Value → Heap → Prop) (h : Heap) : kit_LentByteRows.body l0 R h = evFn Tryz.prog Tryz.f23 kit_LentByteRows.ann [(.slice l0.a l0.n l0.c)] R h := by kernel_rfl
theorem kit_LentByteRows.calls {l0 : Sl} {R : Value → Heap → Prop} {h : Heap} (H : kit_LentByteRows.body l0 R h) : HC Tryz.prog F.kit_LentByteRows #[(.slice l0.a l0.n l0.c)] R h :=
  evFn_sound mixed Tryz.func23 (by kernel_rfl) (kit_LentByteRows.eq l0 R h ▸ H)

/-! zugzwang/bits.Bytes -/
def bits_Bytes.body (words0 : Sl) (R : Value → Heap → Prop) (h : Heap) : Prop :=
  newK h (zerosOf Tryz.prog T.bits_reader) T.bits_reader (fun (r_1 : Option Addr) (h : Heap) =>
  loopW (fun X_3 (s_2 : Int) (h : Heap) =>
  if (decide (s_2 < ((words0.n : Int)))) = true then
  idxK words0 s_2 (sizeOfT Tryz.prog T.uint32) (fun (a_4 : Addr) =>
  loadK (.int .u32) h ((some a_4)) (fun (v_5 : Int) =>
  fldK r_1 0 (fun (a_6 : Addr) =>
  callK Tryz.prog .unit F.bits_row_put #[(.pointer ((some a_6))), (.int .u32 v_5)] (fun (v_7 : Unit) (h : Heap) =>
  X_3 (IntKind.i64.wrap (s_2 + 1)) h) h)))
  else
  fldK r_1 0 (fun (a_8 : Addr) =>
  fldK ((some a_8)) 0 (fun (a_9 : Addr) =>
  loadK .slice h ((some a_9)) (fun (v_10 : Sl) =>
  R (.slice v_10.a v_10.n v_10.c) h)))) 0 h)
def bits_Bytes.ann : Ann := (.seq .leaf (.seq .leaf (.seq (.seq .leaf (.block (.loop [(8, (.int .i64))] (.seq .leaf (.seq (.cond .leaf .leaf) (.seq (.block (.seq .leaf .leaf)) .leaf)))))) (.seq .leaf .leaf))))
theorem bits_Bytes.eq (words0 : Sl) (R : Value → Heap → Prop) (h : Heap) : bits_Bytes.body words0 R h = evFn Tryz.prog Tryz.f73 bits_Bytes.ann [(.slice words0.a words0.n words0.c)] R h := by kernel_rfl
theorem bits_Bytes.calls {words0 : Sl} {R : Value → Heap → Prop} {h : Heap} (H : bits_Bytes.body words0 R h) : HC Tryz.prog F.bits_Bytes #[(.slice words0.a words0.n words0.c)] R h :=
  evFn_sound mixed Tryz.func73 (by kernel_rfl) (bits_Bytes.eq words0 R h ▸ H)

/-! zugzwang/commit.Open$1 -/
def commit_Open_1.body (x0 : Option Addr) (x1 : Option Addr) (x2 : Option Addr) (R : Value → Heap → Prop) (h : Heap) : Prop :=
  newK h (zerosOf Tryz.prog T.api_Tag) T.api_Tag (fun (v_1 : Option Addr) (h : Heap) =>
  loadK .ptr h x0 (fun (v_2 : Option Addr) =>
  loadAggK (sizeOfT Tryz.prog T.api_Tag) h x1 (fun (v_3 : Array Value) =>
  loadK .slice h x2 (fun (v_4 : Sl) =>
  callK Tryz.prog (Kd.pair .agg (.int .i64)) F.commit_Cover #[(.pointer v_2), (.agg v_3), (.slice v_4.a v_4.n v_4.c)] (fun (v_5 : Array Value × Int) (h : Heap) =>
  storeAggK (sizeOfT Tryz.prog T.api_Tag) h v_1 v_5.1 (fun (h : Heap) =>
  quietK Tryz.prog .agg (Instr.loadAt T.api_Tag (.pointer v_1)) (fun (r_6 : Array Value) =>
  R (.tuple #[(.agg r_6), (.int .i64 v_5.2)]) h) h)) h))))
def commit_Open_1.ann : Ann := (.seq .leaf (.seq .leaf .leaf))
theorem commit_Open_1.eq (x0 : Option Addr) (x1 : Option Addr) (x2 : Option Addr) (R : Value → Heap → Prop) (h : Heap) : commit_Open_1.body x0 x1 x2 R h = evFn Tryz.prog Tryz.f47 commit_Open_1.ann [(.pointer x0), (.pointer x1), (.pointer x2)] R h := by kernel_rfl
theorem commit_Open_1.calls {x0 : Option Addr} {x1 : Option Addr} {x2 : Option Addr} {R : Value → Heap → Prop} {h : Heap} (H : commit_Open_1.body x0 x1 x2 R h) : HC Tryz.prog F.commit_Open_1 #[(.pointer x0), (.pointer x1), (.pointer x2)] R h :=
  evFn_sound mixed Tryz.func47 (by kernel_rfl) (commit_Open_1.eq x0 x1 x2 R h ▸ H)

/-! zugzwang/zugzwangref22.Fits -/
def ref22_Fits.body (t0 : Array Value) (told1 : Array Value) (e2 : Int) (R : Value → Heap → Prop) (h : Heap) : Prop :=
  newK h t0 T.api_Tag (fun (t_1 : Option Addr) (h : Heap) =>
  newK h told1 T.api_Tag (fun (told_2 : Option Addr) (h : Heap) =>
  if (e2 != 0) = true then
  R (.int .i64 e2) h
  else
  loadAggK (sizeOfT Tryz.prog T.api_Tag) h t_1 (fun (v_3 : Array Value) =>
  loadAggK (sizeOfT Tryz.prog T.api_Tag) h told_2 (fun (v_4 : Array Value) =>
  eqK Tryz.prog (binSem .neq T.api_Tag (.tmp 10) (.tmp 11) (.agg v_3) (.agg v_4)) (fun (v_5 : Bool) =>
  if v_5 = true then
  R (.int .i64 7) h
  else
  R (.int .i64 0) h)))))
def ref22_Fits.ann : Ann := (.seq .leaf (.seq (.seq .leaf (.cond (.seq .leaf .leaf) .leaf)) (.seq (.seq .leaf (.cond (.seq .leaf .leaf) .leaf)) (.seq .leaf .leaf))))
theorem ref22_Fits.eq (t0 : Array Value) (told1 : Array Value) (e2 : Int) (R : Value → Heap → Prop) (h : Heap) : ref22_Fits.body t0 told1 e2 R h = evFn Tryz.prog Tryz.f15 ref22_Fits.ann [(.agg t0), (.agg told1), (.int .i64 e2)] R h := by kernel_rfl
theorem ref22_Fits.calls {t0 : Array Value} {told1 : Array Value} {e2 : Int} {R : Value → Heap → Prop} {h : Heap} (H : ref22_Fits.body t0 told1 e2 R h) : HC Tryz.prog F.ref22_Fits #[(.agg t0), (.agg told1), (.int .i64 e2)] R h :=
  evFn_sound mixed Tryz.func15 (by kernel_rfl) (ref22_Fits.eq t0 told1 e2 R h ▸ H)

/-! zugzwang/tags.eight -/
def tags_eight.body (n0 : Int) (R : Value → Heap → Prop) (h : Heap) : Prop :=
  loopW (fun X_2 (s_1 : Sl × Int) (h : Heap) =>
  if (decide (s_1.2 < 8)) = true then
  shiftK (IntKind.i64.wrap (56 - (IntKind.i64.wrap (8 * s_1.2))))
  (newSlK h 1 #[(.int .u8 (IntKind.u8.wrap (Int.fdiv (IntKind.u64.wrap n0) (2 ^ min (Int.toNat (IntKind.i64.wrap (56 - (IntKind.i64.wrap (8 * s_1.2))))) (IntKind.bits .u64)))))] T.uint8 (fun (v_3 : Sl) (h : Heap) =>
  opK Tryz.prog .slice (Builtin.append_ #[T.sl_uint8, T.sl_uint8] T.sl_uint8 #[(.slice s_1.1.a s_1.1.n s_1.1.c), (.slice v_3.a v_3.n v_3.c)]) (fun (v_4 : Sl) (h : Heap) =>
  X_2 (v_4, IntKind.i64.wrap (s_1.2 + 1)) h) h))
  else
  R (.slice s_1.1.a s_1.1.n s_1.1.c) h) (⟨none, 0, 0⟩, 0) h
def tags_eight.ann : Ann := (.seq .leaf (.seq (.seq .leaf (.block (.loop [(2, .slice), (4, (.int .i64))] (.seq .leaf (.seq (.cond .leaf .leaf) (.seq (.block (.seq .leaf .leaf)) .leaf)))))) (.seq .leaf .leaf)))
theorem tags_eight.eq (n0 : Int) (R : Value → Heap → Prop) (h : Heap) : tags_eight.body n0 R h = evFn Tryz.prog Tryz.f74 tags_eight.ann [(.int .i64 n0)] R h := by kernel_rfl
theorem tags_eight.calls {n0 : Int} {R : Value → Heap → Prop} {h : Heap} (H : tags_eight.body n0 R h) : HC Tryz.prog F.tags_eight #[(.int .i64 n0)] R h :=
  evFn_sound mixed Tryz.func74 (by kernel_rfl) (tags_eight.eq n0 R h ▸ H)

/-! maps.Clone[map[zugzwang/tags.thing]int,zugzwang/tags.thing,int] -/
def maps_Clone_map_tags_thing_int_tags_thing_int.body (m0 : Option Nat) (R : Value → Heap → Prop) (h : Heap) : Prop :=
  if m0.isNone = true then
  R (.map none) h
  else
  opK Tryz.prog .any (Instr.makeInterface T.map_atags_thing_int (.map m0)) (fun (v_1 : Value) (h : Heap) =>
  externK Tryz.prog .any F.maps_clone #[v_1] (fun (v_2 : Value) (h : Heap) =>
  opK Tryz.prog .map (Instr.typeAssert v_2 T.interface20 T.map_atags_thing_int false) (fun (v_3 : Option Nat) (h : Heap) =>
  R (.map v_3) h) h) h) h
def maps_Clone_map_tags_thing_int_tags_thing_int.ann : Ann := (.seq .leaf (.seq (.seq .leaf (.cond (.seq .leaf .leaf) .leaf)) (.seq .leaf .leaf)))
theorem maps_Clone_map_tags_thing_int_tags_thing_int.eq (m0 : Option Nat) (R : Value → Heap → Prop) (h : Heap) : maps_Clone_map_tags_thing_int_tags_thing_int.body m0 R h = evFn Tryz.prog Tryz.f38 maps_Clone_map_tags_thing_int_tags_thing_int.ann [(.map m0)] R h := by kernel_rfl
theorem maps_Clone_map_tags_thing_int_tags_thing_int.calls {m0 : Option Nat} {R : Value → Heap → Prop} {h : Heap} (H : maps_Clone_map_tags_thing_int_tags_thing_int.body m0 R h) : HC Tryz.prog F.maps_Clone_map_tags_thing_int_tags_thing_int #[(.map m0)] R h :=
  evFn_sound mixed Tryz.func38 (by kernel_rfl) (maps_Clone_map_tags_thing_int_tags_thing_int.eq m0 R h ▸ H)

/-! zugzwang/zugzwangref22.raw -/
def ref22_raw.body (t0 : Array Value) (R : Value → Heap → Prop) (h : Heap) : Prop :=
  newK h t0 T.api_Tag (fun (t_1 : Option Addr) (h : Heap) =>
  loopW (fun X_3 (s_2 : Sl × Int) (h : Heap) =>
  if (decide (s_2.2 < 32)) = true then
  idxArrK t_1 32 s_2.2 (sizeOfT Tryz.prog T.uint8) (fun (a_4 : Addr) =>
  loadK (.int .u8) h ((some a_4)) (fun (v_5 : Int) =>
  newSlK h 1 #[(.int .u8 v_5)] T.uint8 (fun (v_6 : Sl) (h : Heap) =>
  opK Tryz.prog .slice (Builtin.append_ #[T.sl_uint8, T.sl_uint8] T.sl_uint8 #[(.slice s_2.1.a s_2.1.n s_2.1.c), (.slice v_6.a v_6.n v_6.c)]) (fun (v_7 : Sl) (h : Heap) =>
  X_3 (v_7, IntKind.i64.wrap (s_2.2 + 1)) h) h)))
  else
  R (.slice s_2.1.a s_2.1.n s_2.1.c) h) (⟨none, 0, 0⟩, 0) h)
def ref22_raw.ann : Ann := (.seq .leaf (.seq .leaf (.seq (.seq .leaf (.block (.loop [(3, .slice), (4, (.int .i64))] (.seq (.seq .leaf (.cond .leaf .leaf)) (.seq (.block .leaf) .leaf))))) (.seq .leaf .leaf))))
theorem ref22_raw.eq (t0 : Array Value) (R : Value → Heap → Prop) (h : Heap) : ref22_raw.body t0 R h = evFn Tryz.prog Tryz.f30 ref22_raw.ann [(.agg t0)] R h := by kernel_rfl
theorem ref22_raw.calls {t0 : Array Value} {R : Value → Heap → Prop} {h : Heap} (H : ref22_raw.body t0 R h) : HC Tryz.prog F.ref22_raw #[(.agg t0)] R h :=
  evFn_sound mixed Tryz.func30 (by kernel_rfl) (ref22_raw.eq t0 R h ▸ H)

/-! zugzwang/bits.Mix -/
def bits_Mix.body (x0 : Int) (turns1 : Sl) (R : Value → Heap → Prop) (h : Heap) : Prop :=
  loopW (fun X_2 (s_1 : Int × Int) (h : Heap) =>
  if (decide (s_1.2 < ((turns1.n : Int)))) = true then
  idxK turns1 s_1.2 (sizeOfT Tryz.prog T.int) (fun (a_3 : Addr) =>
  loadK (.int .i64) h ((some a_3)) (fun (v_4 : Int) =>
  callK Tryz.prog (.int .u32) F.bits_Turn #[(.int .u32 x0), (.int .i64 v_4)] (fun (v_5 : Int) (h : Heap) =>
  X_2 (IntKind.u32.wrap (BitVec.ofInt (IntKind.bits .u32) s_1.1 ^^^ BitVec.ofInt (IntKind.bits .u32) v_5).toNat, IntKind.i64.wrap (s_1.2 + 1)) h) h))
  else
  R (.int .u32 s_1.1) h) (0, 0) h
def bits_Mix.ann : Ann := (.seq .leaf (.seq (.seq .leaf (.block (.loop [(4, (.int .u32)), (9, (.int .i64))] (.seq .leaf (.seq (.cond .leaf .leaf) (.seq (.block (.seq .leaf .leaf)) .leaf)))))) (.seq .leaf .leaf)))
theorem bits_Mix.eq (x0 : Int) (turns1 : Sl) (R : Value → Heap → Prop) (h : Heap) : bits_Mix.body x0 turns1 R h = evFn Tryz.prog Tryz.f93 bits_Mix.ann [(.int .u32 x0), (.slice turns1.a turns1.n turns1.c)] R h := by kernel_rfl
theorem bits_Mix.calls {x0 : Int} {turns1 : Sl} {R : Value → Heap → Prop} {h : Heap} (H : bits_Mix.body x0 turns1 R h) : HC Tryz.prog F.bits_Mix #[(.int .u32 x0), (.slice turns1.a turns1.n turns1.c)] R h :=
  evFn_sound mixed Tryz.func93 (by kernel_rfl) (bits_Mix.eq x0 turns1 R h ▸ H)

/-! zugzwang/zugzwangref04.eight -/
def ref04_eight.body (n0 : Int) (R : Value → Heap → Prop) (h : Heap) : Prop :=
  loopW (fun X_2 (s_1 : Sl × Int) (h : Heap) =>
  if (decide (s_1.2 ≥ 0)) = true then
  shiftK (IntKind.i64.wrap (8 * s_1.2))
  (newSlK h 1 #[(.int .u8 (IntKind.u8.wrap (Int.fdiv (IntKind.u64.wrap n0) (2 ^ min (Int.toNat (IntKind.i64.wrap (8 * s_1.2))) (IntKind.bits .u64)))))] T.uint8 (fun (v_3 : Sl) (h : Heap) =>
  opK Tryz.prog .slice (Builtin.append_ #[T.sl_uint8, T.sl_uint8] T.sl_uint8 #[(.slice s_1.1.a s_1.1.n s_1.1.c), (.slice v_3.a v_3.n v_3.c)]) (fun (v_4 : Sl) (h : Heap) =>
  X_2 (v_4, IntKind.i64.wrap (s_1.2 - 1)) h) h))
  else
  R (.slice s_1.1.a s_1.1.n s_1.1.c) h) (⟨none, 0, 0⟩, 7) h
def ref04_eight.ann : Ann := (.seq .leaf (.seq .leaf (.seq (.seq .leaf (.block (.loop [(3, .slice), (4, (.int .i64))] (.seq (.seq .leaf (.cond .leaf .leaf)) (.seq (.block .leaf) .leaf))))) (.seq .leaf .leaf))))
theorem ref04_eight.eq (n0 : Int) (R : Value → Heap → Prop) (h : Heap) : ref04_eight.body n0 R h = evFn Tryz.prog Tryz.f104 ref04_eight.ann [(.int .i64 n0)] R h := by kernel_rfl
theorem ref04_eight.calls {n0 : Int} {R : Value → Heap → Prop} {h : Heap} (H : ref04_eight.body n0 R h) : HC Tryz.prog F.ref04_eight #[(.int .i64 n0)] R h :=
  evFn_sound mixed Tryz.func104 (by kernel_rfl) (ref04_eight.eq n0 R h ▸ H)

/-! zugzwang/msg.Body -/
def msg_Body.body (b0 : Array Value) (R : Value → Heap → Prop) (h : Heap) : Prop :=
  newK h b0 T.api_Body (fun (b_1 : Option Addr) (h : Heap) =>
  loadAggK (sizeOfT Tryz.prog T.api_Body) h b_1 (fun (v_2 : Array Value) =>
  callK Tryz.prog (Kd.pair .agg .bool) F.msg_named #[(.agg v_2)] (fun (v_3 : Array Value × Bool) (h : Heap) =>
  newK h (zerosOf Tryz.prog T.api_Body) T.api_Body (fun (has_4 : Option Addr) (h : Heap) =>
  storeAggK (sizeOfT Tryz.prog T.api_Body) h has_4 v_3.1 (fun (h : Heap) =>
  if v_3.2 = true then
  loadAggK (sizeOfT Tryz.prog T.api_Body) h has_4 (fun (v_5 : Array Value) =>
  loadAggK (sizeOfT Tryz.prog T.api_Body) h b_1 (fun (v_6 : Array Value) =>
  eqK Tryz.prog (binSem .eql T.api_Body (.tmp 12) (.tmp 13) (.agg v_5) (.agg v_6)) (fun (v_7 : Bool) =>
  R (.bool v_7) h)))
  else
  R (.bool false) h))) h))
def msg_Body.ann : Ann := (.seq .leaf (.seq .leaf (.seq .leaf .leaf)))
theorem msg_Body.eq (b0 : Array Value) (R : Value → Heap → Prop) (h : Heap) : msg_Body.body b0 R h = evFn Tryz.prog Tryz.f31 msg_Body.ann [(.agg b0)] R h := by kernel_rfl
theorem msg_Body.calls {b0 : Array Value} {R : Value → Heap → Prop} {h : Heap} (H : msg_Body.body b0 R h) : HC Tryz.prog F.msg_Body #[(.agg b0)] R h :=
  evFn_sound mixed Tryz.func31 (by kernel_rfl) (msg_Body.eq b0 R h ▸ H)

/-! (*zugzwang/codec.state).spoil -/
def codec_state_spoil.body (s0 : Option Addr) (e1 : Int) (R : Value → Heap → Prop) (h : Heap) : Prop :=
  joinW (fun (s_1 : Unit) (h : Heap) =>
  derefK s0 (fun (a_2 : Addr) =>
  fldK ((some a_2)) 1 (fun (a_3 : Addr) =>
  loadK (.int .i64) h ((some a_3)) (fun (v_4 : Int) =>
  R (.int .i64 v_4) h))))
  (fun J_5 =>
  derefK s0 (fun (a_6 : Addr) =>
  fldK ((some a_6)) 1 (fun (a_7 : Addr) =>
  loadK (.int .i64) h ((some a_7)) (fun (v_8 : Int) =>
  if (v_8 == 0) = true then
  derefK s0 (fun (a_9 : Addr) =>
  fldK ((some a_9)) 1 (fun (a_10 : Addr) =>
  storeK h ((some a_10)) (.int .i64 e1) (fun (h : Heap) =>
  J_5 () h)))
  else
  J_5 () h))))
def codec_state_spoil.ann : Ann := (.seq .leaf (.join [] (.seq .leaf (.cond .leaf .leaf)) (.seq .leaf .leaf)))
theorem codec_state_spoil.eq (s0 : Option Addr) (e1 : Int) (R : Value → Heap → Prop) (h : Heap) : codec_state_spoil.body s0 e1 R h = evFn Tryz.prog Tryz.f69 codec_state_spoil.ann [(.pointer s0), (.int .i64 e1)] R h := by kernel_rfl
theorem codec_state_spoil.calls {s0 : Option Addr} {e1 : Int} {R : Value → Heap → Prop} {h : Heap} (H : codec_state_spoil.body s0 e1 R h) : HC Tryz.prog F.codec_state_spoil #[(.pointer s0), (.int .i64 e1)] R h :=
  evFn_sound mixed Tryz.func69 (by kernel_rfl) (codec_state_spoil.eq s0 e1 R h ▸ H)

/-! zugzwang/zugzwangref02.small -/
def ref02_small.body (x0 : Int) (i1 : Int) (j2 : Int) (k3 : Int) (R : Value → Heap → Prop) (h : Heap) : Prop :=
  newSlK h 2 #[(.int .i64 i1), (.int .i64 j2)] T.int (fun (v_1 : Sl) (h : Heap) =>
  callK Tryz.prog (.int .u32) F.ref01_Mix #[(.int .u32 x0), (.slice v_1.a v_1.n v_1.c)] (fun (v_2 : Int) (h : Heap) =>
  callK Tryz.prog (.int .u32) F.ref01_Shift #[(.int .u32 x0), (.int .i64 k3)] (fun (v_3 : Int) (h : Heap) =>
  R (.int .u32 (IntKind.u32.wrap (BitVec.ofInt (IntKind.bits .u32) v_2 ^^^ BitVec.ofInt (IntKind.bits .u32) v_3).toNat)) h) h) h)
def ref02_small.ann : Ann := (.seq .leaf (.seq .leaf .leaf))
theorem ref02_small.eq (x0 : Int) (i1 : Int) (j2 : Int) (k3 : Int) (R : Value → Heap → Prop) (h : Heap) : ref02_small.body x0 i1 j2 k3 R h = evFn Tryz.prog Tryz.f100 ref02_small.ann [(.int .u32 x0), (.int .i64 i1), (.int .i64 j2), (.int .i64 k3)] R h := by kernel_rfl
theorem ref02_small.calls {x0 : Int} {i1 : Int} {j2 : Int} {k3 : Int} {R : Value → Heap → Prop} {h : Heap} (H : ref02_small.body x0 i1 j2 k3 R h) : HC Tryz.prog F.ref02_small #[(.int .u32 x0), (.int .i64 i1), (.int .i64 j2), (.int .i64 k3)] R h :=
  evFn_sound mixed Tryz.func100 (by kernel_rfl) (ref02_small.eq x0 i1 j2 k3 R h ▸ H)

/-! zugzwang/tags.New -/
def tags_New.body (real0 : Bool) (seed1 : Sl) (R : Value → Heap → Prop) (h : Heap) : Prop :=
  opK Tryz.prog .map (Instr.makeMap T.map_atags_thing_int none) (fun (v_1 : Option Nat) (h : Heap) =>
  buildK Tryz.prog (Instr.build T.tags_book #[(0, (.map v_1))]) (fun (v_2 : Array Value) =>
  callK Tryz.prog .slice F.slices_Clone_byte_byte #[(.slice seed1.a seed1.n seed1.c)] (fun (v_3 : Sl) (h : Heap) =>
  buildK Tryz.prog (Instr.build T.tags_Maker #[(0, (.agg v_2)), (1, (.bool real0)), (2, (.slice v_3.a v_3.n v_3.c))]) (fun (v_4 : Array Value) =>
  newK h v_4 T.tags_Maker (fun (v_5 : Option Addr) (h : Heap) =>
  R (.pointer v_5) h))) h)) h
def tags_New.ann : Ann := (.seq .leaf (.seq .leaf .leaf))
theorem tags_New.eq (real0 : Bool) (seed1 : Sl) (R : Value → Heap → Prop) (h : Heap) : tags_New.body real0 seed1 R h = evFn Tryz.prog Tryz.f6 tags_New.ann [(.bool real0), (.slice seed1.a seed1.n seed1.c)] R h := by kernel_rfl
theorem tags_New.calls {real0 : Bool} {seed1 : Sl} {R : Value → Heap → Prop} {h : Heap} (H : tags_New.body real0 seed1 R h) : HC Tryz.prog F.tags_New #[(.bool real0), (.slice seed1.a seed1.n seed1.c)] R h :=
  evFn_sound mixed Tryz.func6 (by kernel_rfl) (tags_New.eq real0 seed1 R h ▸ H)

/-! zugzwang/digest.Of -/
def digest_Of.body (rows0 : Sl) (R : Value → Heap → Prop) (h : Heap) : Prop :=
  newK h (zerosOf Tryz.prog T.api_Tag) T.api_Tag (fun (v_1 : Option Addr) (h : Heap) =>
  callK Tryz.prog .ptr F.digest_New #[] (fun (v_2 : Option Addr) (h : Heap) =>
  callK Tryz.prog .unit F.digest_Hasher_all #[(.pointer v_2), (.slice rows0.a rows0.n rows0.c)] (fun (v_3 : Unit) (h : Heap) =>
  callK Tryz.prog .agg F.digest_Hasher_ended #[(.pointer v_2)] (fun (v_4 : Array Value) (h : Heap) =>
  storeAggK (sizeOfT Tryz.prog T.api_Tag) h v_1 v_4 (fun (h : Heap) =>
  quietK Tryz.prog .agg (Instr.loadAt T.api_Tag (.pointer v_1)) (fun (r_5 : Array Value) =>
  R (.agg r_5) h) h)) h) h) h)
def digest_Of.ann : Ann := (.seq .leaf (.seq .leaf (.seq .leaf (.seq .leaf .leaf))))
theorem digest_Of.eq (rows0 : Sl) (R : Value → Heap → Prop) (h : Heap) : digest_Of.body rows0 R h = evFn Tryz.prog Tryz.f42 digest_Of.ann [(.slice rows0.a rows0.n rows0.c)] R h := by kernel_rfl
theorem digest_Of.calls {rows0 : Sl} {R : Value → Heap → Prop} {h : Heap} (H : digest_Of.body rows0 R h) : HC Tryz.prog F.digest_Of #[(.slice rows0.a rows0.n rows0.c)] R h :=
  evFn_sound mixed Tryz.func42 (by kernel_rfl) (digest_Of.eq rows0 R h ▸ H)

/-! zugzwang/zugzwanglaw22.size -/
def law22_size.body (rows0 : Sl) (R : Value → Heap → Prop) (h : Heap) : Prop :=
  loopW (fun X_2 (s_1 : Int × Int) (h : Heap) =>
  if (decide (s_1.2 < ((rows0.n : Int)))) = true then
  if (decide (s_1.1 ≤ 3000)) = true then
  idxK rows0 s_1.2 (sizeOfT Tryz.prog T.sl_uint8) (fun (a_3 : Addr) =>
  loadK .slice h ((some a_3)) (fun (v_4 : Sl) =>
  X_2 (IntKind.i64.wrap (s_1.1 + ((v_4.n : Int))), IntKind.i64.wrap (s_1.2 + 1)) h))
  else
  R (.int .i64 s_1.1) h
  else
  R (.int .i64 s_1.1) h) ((rows0.n : Int), 0) h
def law22_size.ann : Ann := (.seq .leaf (.seq .leaf (.seq (.seq .leaf (.block (.loop [(3, (.int .i64)), (4, (.int .i64))] (.seq (.seq .leaf (.cond .leaf .leaf)) (.seq (.block .leaf) .leaf))))) (.seq .leaf .leaf))))
theorem law22_size.eq (rows0 : Sl) (R : Value → Heap → Prop) (h : Heap) : law22_size.body rows0 R h = evFn Tryz.prog Tryz.f22 law22_size.ann [(.slice rows0.a rows0.n rows0.c)] R h := by kernel_rfl
theorem law22_size.calls {rows0 : Sl} {R : Value → Heap → Prop} {h : Heap} (H : law22_size.body rows0 R h) : HC Tryz.prog F.law22_size #[(.slice rows0.a rows0.n rows0.c)] R h :=
  evFn_sound mixed Tryz.func22 (by kernel_rfl) (law22_size.eq rows0 R h ▸ H)

/-! zugzwang/zugzwangref01.Sum -/
def ref01_Sum.body (words0 : Sl) (R : Value → Heap → Prop) (h : Heap) : Prop :=
  loopW (fun X_2 (s_1 : Int × Int) (h : Heap) =>
  if (decide (s_1.2 < ((words0.n : Int)))) = true then
  idxK words0 s_1.2 (sizeOfT Tryz.prog T.uint32) (fun (a_3 : Addr) =>
  loadK (.int .u32) h ((some a_3)) (fun (v_4 : Int) =>
  divK 4294967296
  (X_2 (Int.tmod (IntKind.u64.wrap (s_1.1 + (IntKind.u64.wrap v_4))) 4294967296, IntKind.i64.wrap (s_1.2 + 1)) h)))
  else
  R (.int .u32 (IntKind.u32.wrap s_1.1)) h) (0, 0) h
def ref01_Sum.ann : Ann := (.seq .leaf (.seq .leaf (.seq (.seq .leaf (.block (.loop [(3, (.int .u64)), (4, (.int .i64))] (.seq (.seq .leaf (.cond .leaf .leaf)) (.seq (.block .leaf) .leaf))))) (.seq .leaf .leaf))))
theorem ref01_Sum.eq (words0 : Sl) (R : Value → Heap → Prop) (h : Heap) : ref01_Sum.body words0 R h = evFn Tryz.prog Tryz.f80 ref01_Sum.ann [(.slice words0.a words0.n words0.c)] R h := by kernel_rfl
theorem ref01_Sum.calls {words0 : Sl} {R : Value → Heap → Prop} {h : Heap} (H : ref01_Sum.body words0 R h) : HC Tryz.prog F.ref01_Sum #[(.slice words0.a words0.n words0.c)] R h :=
  evFn_sound mixed Tryz.func80 (by kernel_rfl) (ref01_Sum.eq words0 R h ▸ H)

/-! zugzwang/digest.begun -/
def digest_begun.body  (R : Value → Heap → Prop) (h : Heap) : Prop :=
  newK h (zerosOf Tryz.prog T.digest_state) T.digest_state (fun (v_1 : Option Addr) (h : Heap) =>
  buildK Tryz.prog (Instr.build T.digest_state #[(0, (.int .u32 1779033703)), (1, (.int .u32 3144134277)), (2, (.int .u32 1013904242)), (3, (.int .u32 2773480762)), (4, (.int .u32 1359893119)), (5, (.int .u32 2600822924)), (6, (.int .u32 528734635)), (7, (.int .u32 1541459225))]) (fun (v_2 : Array Value) =>
  storeAggK (sizeOfT Tryz.prog T.digest_state) h v_1 v_2 (fun (h : Heap) =>
  quietK Tryz.prog .agg (Instr.loadAt T.digest_state (.pointer v_1)) (fun (r_3 : Array Value) =>
  R (.agg r_3) h) h)))
def digest_begun.ann : Ann := (.seq .leaf (.seq .leaf .leaf))
theorem digest_begun.eq  (R : Value → Heap → Prop) (h : Heap) : digest_begun.body  R h = evFn Tryz.prog Tryz.f70 digest_begun.ann [] R h := by kernel_rfl
theorem digest_begun.calls  {R : Value → Heap → Prop} {h : Heap} (H : digest_begun.body  R h) : HC Tryz.prog F.digest_begun #[] R h :=
  evFn_sound mixed Tryz.func70 (by kernel_rfl) (digest_begun.eq  R h ▸ H)

/-! zugzwang/bits.Sum -/
def bits_Sum.body (words0 : Sl) (R : Value → Heap → Prop) (h : Heap) : Prop :=
  loopW (fun X_2 (s_1 : Int × Int) (h : Heap) =>
  if (decide (s_1.2 < ((words0.n : Int)))) = true then
  idxK words0 s_1.2 (sizeOfT Tryz.prog T.uint32) (fun (a_3 : Addr) =>
  loadK (.int .u32) h ((some a_3)) (fun (v_4 : Int) =>
  X_2 (IntKind.u32.wrap (s_1.1 + v_4), IntKind.i64.wrap (s_1.2 + 1)) h))
  else
  R (.int .u32 s_1.1) h) (0, 0) h
def bits_Sum.ann : Ann := (.seq .leaf (.seq (.seq .leaf (.block (.loop [(2, (.int .u32)), (7, (.int .i64))] (.seq .leaf (.seq (.cond .leaf .leaf) (.seq (.block (.seq .leaf .leaf)) .leaf)))))) (.seq .leaf .leaf)))
theorem bits_Sum.eq (words0 : Sl) (R : Value → Heap → Prop) (h : Heap) : bits_Sum.body words0 R h = evFn Tryz.prog Tryz.f95 bits_Sum.ann [(.slice words0.a words0.n words0.c)] R h := by kernel_rfl
theorem bits_Sum.calls {words0 : Sl} {R : Value → Heap → Prop} {h : Heap} (H : bits_Sum.body words0 R h) : HC Tryz.prog F.bits_Sum #[(.slice words0.a words0.n words0.c)] R h :=
  evFn_sound mixed Tryz.func95 (by kernel_rfl) (bits_Sum.eq words0 R h ▸ H)

/-! slices.Clone[[]byte,byte] -/
def slices_Clone_byte_byte.body (s0 : Sl) (R : Value → Heap → Prop) (h : Heap) : Prop :=
  if s0.a.isNone = true then
  R (.slice none 0 0) h
  else
  newSlK h 0 #[] T.uint8 (fun (v_1 : Sl) (h : Heap) =>
  opK Tryz.prog .slice (Builtin.append_ #[T.sl_uint8, T.sl_uint8] T.sl_uint8 #[(.slice v_1.a v_1.n v_1.c), (.slice s0.a s0.n s0.c)]) (fun (v_2 : Sl) (h : Heap) =>
  R (.slice v_2.a v_2.n v_2.c) h) h)
def slices_Clone_byte_byte.ann : Ann := (.seq .leaf (.seq (.seq .leaf (.cond (.seq .leaf .leaf) .leaf)) (.seq .leaf .leaf)))
theorem slices_Clone_byte_byte.eq (s0 : Sl) (R : Value → Heap → Prop) (h : Heap) : slices_Clone_byte_byte.body s0 R h = evFn Tryz.prog Tryz.f21 slices_Clone_byte_byte.ann [(.slice s0.a s0.n s0.c)] R h := by kernel_rfl
theorem slices_Clone_byte_byte.calls {s0 : Sl} {R : Value → Heap → Prop} {h : Heap} (H : slices_Clone_byte_byte.body s0 R h) : HC Tryz.prog F.slices_Clone_byte_byte #[(.slice s0.a s0.n s0.c)] R h :=
  evFn_sound mixed Tryz.func21 (by kernel_rfl) (slices_Clone_byte_byte.eq s0 R h ▸ H)

/-! zugzwang/bits.Choose -/
def bits_Choose.body (x0 : Int) (a1 : Int) (b2 : Int) (R : Value → Heap → Prop) (h : Heap) : Prop :=
  R (.int .u32 (IntKind.u32.wrap (BitVec.ofInt (IntKind.bits .u32) b2 ^^^ BitVec.ofInt (IntKind.bits .u32) (IntKind.u32.wrap (BitVec.ofInt (IntKind.bits .u32) x0 &&& BitVec.ofInt (IntKind.bits .u32) (IntKind.u32.wrap (BitVec.ofInt (IntKind.bits .u32) a1 ^^^ BitVec.ofInt (IntKind.bits .u32) b2).toNat)).toNat)).toNat)) h
def bits_Choose.ann : Ann := (.seq .leaf (.seq .leaf .leaf))
theorem bits_Choose.eq (x0 : Int) (a1 : Int) (b2 : Int) (R : Value → Heap → Prop) (h : Heap) : bits_Choose.body x0 a1 b2 R h = evFn Tryz.prog Tryz.f109 bits_Choose.ann [(.int .u32 x0), (.int .u32 a1), (.int .u32 b2)] R h := by kernel_rfl
theorem bits_Choose.calls {x0 : Int} {a1 : Int} {b2 : Int} {R : Value → Heap → Prop} {h : Heap} (H : bits_Choose.body x0 a1 b2 R h) : HC Tryz.prog F.bits_Choose #[(.int .u32 x0), (.int .u32 a1), (.int .u32 b2)] R h :=
  evFn_sound mixed Tryz.func109 (by kernel_rfl) (bits_Choose.eq x0 a1 b2 R h ▸ H)

/-! (*zugzwang/codec.Writer).Tag -/
def codec_Writer_Tag.body (w0 : Option Addr) (l1 : Sl) (R : Value → Heap → Prop) (h : Heap) : Prop :=
  buildK Tryz.prog (Instr.build T.codec_ruleaapi_Tag #[(1, ((Value.func (.func F.codec_Writer_Tag_1) #[] #[])))]) (fun (v_1 : Array Value) =>
  callK Tryz.prog (.int .i64) F.codec_put_api_Tag #[(.pointer w0), (.agg v_1), (.slice l1.a l1.n l1.c)] (fun (v_2 : Int) (h : Heap) =>
  R (.int .i64 v_2) h) h)
def codec_Writer_Tag.ann : Ann := (.seq .leaf (.seq .leaf .leaf))
theorem codec_Writer_Tag.eq (w0 : Option Addr) (l1 : Sl) (R : Value → Heap → Prop) (h : Heap) : codec_Writer_Tag.body w0 l1 R h = evFn Tryz.prog Tryz.f40 codec_Writer_Tag.ann [(.pointer w0), (.slice l1.a l1.n l1.c)] R h := by kernel_rfl
theorem codec_Writer_Tag.calls {w0 : Option Addr} {l1 : Sl} {R : Value → Heap → Prop} {h : Heap} (H : codec_Writer_Tag.body w0 l1 R h) : HC Tryz.prog F.codec_Writer_Tag #[(.pointer w0), (.slice l1.a l1.n l1.c)] R h :=
  evFn_sound mixed Tryz.func40 (by kernel_rfl) (codec_Writer_Tag.eq w0 l1 R h ▸ H)

/-! (*zugzwang/codec.Writer).Run -/
def codec_Writer_Run.body (w0 : Option Addr) (l1 : Sl) (R : Value → Heap → Prop) (h : Heap) : Prop :=
  buildK Tryz.prog (Instr.build T.codec_ruleasl_byte #[(1, ((Value.func (.func F.codec_Writer_Run_1) #[] #[])))]) (fun (v_1 : Array Value) =>
  callK Tryz.prog (.int .i64) F.codec_put_byte #[(.pointer w0), (.agg v_1), (.slice l1.a l1.n l1.c)] (fun (v_2 : Int) (h : Heap) =>
  R (.int .i64 v_2) h) h)
def codec_Writer_Run.ann : Ann := (.seq .leaf (.seq .leaf .leaf))
theorem codec_Writer_Run.eq (w0 : Option Addr) (l1 : Sl) (R : Value → Heap → Prop) (h : Heap) : codec_Writer_Run.body w0 l1 R h = evFn Tryz.prog Tryz.f39 codec_Writer_Run.ann [(.pointer w0), (.slice l1.a l1.n l1.c)] R h := by kernel_rfl
theorem codec_Writer_Run.calls {w0 : Option Addr} {l1 : Sl} {R : Value → Heap → Prop} {h : Heap} (H : codec_Writer_Run.body w0 l1 R h) : HC Tryz.prog F.codec_Writer_Run #[(.pointer w0), (.slice l1.a l1.n l1.c)] R h :=
  evFn_sound mixed Tryz.func39 (by kernel_rfl) (codec_Writer_Run.eq w0 l1 R h ▸ H)

/-! (*zugzwang/codec.Writer).Run$1 -/
def codec_Writer_Run_1.body (b0 : Sl) (R : Value → Heap → Prop) (h : Heap) : Prop :=
  callK Tryz.prog .slice F.codec_bytes4 #[(.int .i64 ((b0.n : Int)))] (fun (v_1 : Sl) (h : Heap) =>
  newSlK h 2 #[(.slice v_1.a v_1.n v_1.c), (.slice b0.a b0.n b0.c)] T.sl_uint8 (fun (v_2 : Sl) (h : Heap) =>
  callK Tryz.prog .slice F.slices_Concat_byte_byte #[(.slice v_2.a v_2.n v_2.c)] (fun (v_3 : Sl) (h : Heap) =>
  R (.slice v_3.a v_3.n v_3.c) h) h)) h
def codec_Writer_Run_1.ann : Ann := (.seq .leaf (.seq .leaf .leaf))
theorem codec_Writer_Run_1.eq (b0 : Sl) (R : Value → Heap → Prop) (h : Heap) : codec_Writer_Run_1.body b0 R h = evFn Tryz.prog Tryz.f54 codec_Writer_Run_1.ann [(.slice b0.a b0.n b0.c)] R h := by kernel_rfl
theorem codec_Writer_Run_1.calls {b0 : Sl} {R : Value → Heap → Prop} {h : Heap} (H : codec_Writer_Run_1.body b0 R h) : HC Tryz.prog F.codec_Writer_Run_1 #[(.slice b0.a b0.n b0.c)] R h :=
  evFn_sound mixed Tryz.func54 (by kernel_rfl) (codec_Writer_Run_1.eq b0 R h ▸ H)

/-! zugzwang/tags.Mark -/
def tags_Mark.body (b0 : Sl) (R : Value → Heap → Prop) (h : Heap) : Prop :=
  newSlK h 8 #[(.int .u8 122), (.int .u8 117), (.int .u8 103), (.int .u8 122), (.int .u8 119), (.int .u8 97), (.int .u8 110), (.int .u8 103)] T.uint8 (fun (v_1 : Sl) (h : Heap) =>
  opK Tryz.prog .slice (convert T.sl_uint8 T.sl_uint8 (.slice v_1.a v_1.n v_1.c)) (fun (v_2 : Sl) (h : Heap) =>
  callK Tryz.prog .bool F.bytes_Contains #[(.slice b0.a b0.n b0.c), (.slice v_2.a v_2.n v_2.c)] (fun (v_3 : Bool) (h : Heap) =>
  R (.bool v_3) h) h) h)
def tags_Mark.ann : Ann := (.seq .leaf (.seq .leaf .leaf))
theorem tags_Mark.eq (b0 : Sl) (R : Value → Heap → Prop) (h : Heap) : tags_Mark.body b0 R h = evFn Tryz.prog Tryz.f27 tags_Mark.ann [(.slice b0.a b0.n b0.c)] R h := by kernel_rfl
theorem tags_Mark.calls {b0 : Sl} {R : Value → Heap → Prop} {h : Heap} (H : tags_Mark.body b0 R h) : HC Tryz.prog F.tags_Mark #[(.slice b0.a b0.n b0.c)] R h :=
  evFn_sound mixed Tryz.func27 (by kernel_rfl) (tags_Mark.eq b0 R h ▸ H)

/-! zugzwang/codec.bytes4 -/
def codec_bytes4.body (n0 : Int) (R : Value → Heap → Prop) (h : Heap) : Prop :=
  shiftK 24
  (shiftK 16
  (shiftK 8
  (newSlK h 4 #[(.int .u8 (IntKind.u8.wrap (Int.fdiv n0 (2 ^ min (Int.toNat 24) (IntKind.bits .i64))))), (.int .u8 (IntKind.u8.wrap (Int.fdiv n0 (2 ^ min (Int.toNat 16) (IntKind.bits .i64))))), (.int .u8 (IntKind.u8.wrap (Int.fdiv n0 (2 ^ min (Int.toNat 8) (IntKind.bits .i64))))), (.int .u8 (IntKind.u8.wrap n0))] T.uint8 (fun (v_1 : Sl) (h : Heap) =>
  R (.slice v_1.a v_1.n v_1.c) h))))
def codec_bytes4.ann : Ann := (.seq .leaf (.seq .leaf .leaf))
theorem codec_bytes4.eq (n0 : Int) (R : Value → Heap → Prop) (h : Heap) : codec_bytes4.body n0 R h = evFn Tryz.prog Tryz.f55 codec_bytes4.ann [(.int .i64 n0)] R h := by kernel_rfl
theorem codec_bytes4.calls {n0 : Int} {R : Value → Heap → Prop} {h : Heap} (H : codec_bytes4.body n0 R h) : HC Tryz.prog F.codec_bytes4 #[(.int .i64 n0)] R h :=
  evFn_sound mixed Tryz.func55 (by kernel_rfl) (codec_bytes4.eq n0 R h ▸ H)

/-! zugzwang/zugzwangref17.Four -/
def ref17_Four.body (n0 : Int) (R : Value → Heap → Prop) (h : Heap) : Prop :=
  shiftK 24
  (shiftK 16
  (shiftK 8
  (newSlK h 4 #[(.int .u8 (IntKind.u8.wrap (Int.fdiv n0 (2 ^ min (Int.toNat 24) (IntKind.bits .i64))))), (.int .u8 (IntKind.u8.wrap (Int.fdiv n0 (2 ^ min (Int.toNat 16) (IntKind.bits .i64))))), (.int .u8 (IntKind.u8.wrap (Int.fdiv n0 (2 ^ min (Int.toNat 8) (IntKind.bits .i64))))), (.int .u8 (IntKind.u8.wrap n0))] T.uint8 (fun (v_1 : Sl) (h : Heap) =>
  R (.slice v_1.a v_1.n v_1.c) h))))
def ref17_Four.ann : Ann := (.seq .leaf (.seq .leaf .leaf))
theorem ref17_Four.eq (n0 : Int) (R : Value → Heap → Prop) (h : Heap) : ref17_Four.body n0 R h = evFn Tryz.prog Tryz.f33 ref17_Four.ann [(.int .i64 n0)] R h := by kernel_rfl
theorem ref17_Four.calls {n0 : Int} {R : Value → Heap → Prop} {h : Heap} (H : ref17_Four.body n0 R h) : HC Tryz.prog F.ref17_Four #[(.int .i64 n0)] R h :=
  evFn_sound mixed Tryz.func33 (by kernel_rfl) (ref17_Four.eq n0 R h ▸ H)

/-! bytes.Contains -/
def bytes_Contains.body (b0 : Sl) (subslice1 : Sl) (R : Value → Heap → Prop) (h : Heap) : Prop :=
  callK Tryz.prog (.int .i64) F.bytes_Index #[(.slice b0.a b0.n b0.c), (.slice subslice1.a subslice1.n subslice1.c)] (fun (v_1 : Int) (h : Heap) =>
  R (.bool (v_1 != ((-1)))) h) h
def bytes_Contains.ann : Ann := (.seq .leaf (.seq .leaf .leaf))
theorem bytes_Contains.eq (b0 : Sl) (subslice1 : Sl) (R : Value → Heap → Prop) (h : Heap) : bytes_Contains.body b0 subslice1 R h = evFn Tryz.prog Tryz.f49 bytes_Contains.ann [(.slice b0.a b0.n b0.c), (.slice subslice1.a subslice1.n subslice1.c)] R h := by kernel_rfl
theorem bytes_Contains.calls {b0 : Sl} {subslice1 : Sl} {R : Value → Heap → Prop} {h : Heap} (H : bytes_Contains.body b0 subslice1 R h) : HC Tryz.prog F.bytes_Contains #[(.slice b0.a b0.n b0.c), (.slice subslice1.a subslice1.n subslice1.c)] R h :=
  evFn_sound mixed Tryz.func49 (by kernel_rfl) (bytes_Contains.eq b0 subslice1 R h ▸ H)

/-! zugzwang/zugzwangkit.markByte -/
def kit_markByte.body (k0 : Int) (i1 : Int) (R : Value → Heap → Prop) (h : Heap) : Prop :=
  callK Tryz.prog (.int .i64) F.kit_mark #[(.int .i64 k0), (.int .i64 i1)] (fun (v_1 : Int) (h : Heap) =>
  shiftK 56
  (R (.int .u8 (IntKind.u8.wrap (Int.fdiv (IntKind.u64.wrap ((IntKind.u64.wrap v_1) * 11400714819323198485)) (2 ^ min (Int.toNat 56) (IntKind.bits .u64))))) h)) h
def kit_markByte.ann : Ann := (.seq .leaf (.seq .leaf .leaf))
theorem kit_markByte.eq (k0 : Int) (i1 : Int) (R : Value → Heap → Prop) (h : Heap) : kit_markByte.body k0 i1 R h = evFn Tryz.prog Tryz.f64 kit_markByte.ann [(.int .i64 k0), (.int .i64 i1)] R h := by kernel_rfl
theorem kit_markByte.calls {k0 : Int} {i1 : Int} {R : Value → Heap → Prop} {h : Heap} (H : kit_markByte.body k0 i1 R h) : HC Tryz.prog F.kit_markByte #[(.int .i64 k0), (.int .i64 i1)] R h :=
  evFn_sound mixed Tryz.func64 (by kernel_rfl) (kit_markByte.eq k0 i1 R h ▸ H)

/-! bytes.Equal -/
def bytes_Equal.body (a0 : Sl) (b1 : Sl) (R : Value → Heap → Prop) (h : Heap) : Prop :=
  opK Tryz.prog .str (convert T.sl_uint8 T.string (.slice a0.a a0.n a0.c)) (fun (v_1 : ByteArray) (h : Heap) =>
  opK Tryz.prog .str (convert T.sl_uint8 T.string (.slice b1.a b1.n b1.c)) (fun (v_2 : ByteArray) (h : Heap) =>
  R (.bool (v_1.toList == v_2.toList)) h) h) h
def bytes_Equal.ann : Ann := (.seq .leaf (.seq .leaf .leaf))
theorem bytes_Equal.eq (a0 : Sl) (b1 : Sl) (R : Value → Heap → Prop) (h : Heap) : bytes_Equal.body a0 b1 R h = evFn Tryz.prog Tryz.f87 bytes_Equal.ann [(.slice a0.a a0.n a0.c), (.slice b1.a b1.n b1.c)] R h := by kernel_rfl
theorem bytes_Equal.calls {a0 : Sl} {b1 : Sl} {R : Value → Heap → Prop} {h : Heap} (H : bytes_Equal.body a0 b1 R h) : HC Tryz.prog F.bytes_Equal #[(.slice a0.a a0.n a0.c), (.slice b1.a b1.n b1.c)] R h :=
  evFn_sound mixed Tryz.func87 (by kernel_rfl) (bytes_Equal.eq a0 b1 R h ▸ H)

/-! (*zugzwang/tags.Maker).there -/
def tags_Maker_there.body (m0 : Option Addr) (R : Value → Heap → Prop) (h : Heap) : Prop :=
  if (!m0.isNone) = true then
  derefK m0 (fun (a_1 : Addr) =>
  fldK ((some a_1)) 0 (fun (a_2 : Addr) =>
  fldK ((some a_2)) 0 (fun (a_3 : Addr) =>
  loadK .map h ((some a_3)) (fun (v_4 : Option Nat) =>
  R (.bool (!v_4.isNone)) h))))
  else
  R (.bool false) h
def tags_Maker_there.ann : Ann := (.seq .leaf (.seq .leaf .leaf))
theorem tags_Maker_there.eq (m0 : Option Addr) (R : Value → Heap → Prop) (h : Heap) : tags_Maker_there.body m0 R h = evFn Tryz.prog Tryz.f37 tags_Maker_there.ann [(.pointer m0)] R h := by kernel_rfl
theorem tags_Maker_there.calls {m0 : Option Addr} {R : Value → Heap → Prop} {h : Heap} (H : tags_Maker_there.body m0 R h) : HC Tryz.prog F.tags_Maker_there #[(.pointer m0)] R h :=
  evFn_sound mixed Tryz.func37 (by kernel_rfl) (tags_Maker_there.eq m0 R h ▸ H)

/-! zugzwang/zugzwangref01.place -/
def ref01_place.body (k0 : Int) (one1 : Bool) (R : Value → Heap → Prop) (h : Heap) : Prop :=
  if one1 = true then
  shiftK k0
  (R (.int .u32 (IntKind.u32.wrap (1 * 2 ^ min (Int.toNat k0) (IntKind.bits .u32)))) h)
  else
  R (.int .u32 0) h
def ref01_place.ann : Ann := (.seq .leaf (.seq (.seq .leaf (.cond (.seq .leaf .leaf) .leaf)) (.seq .leaf .leaf)))
theorem ref01_place.eq (k0 : Int) (one1 : Bool) (R : Value → Heap → Prop) (h : Heap) : ref01_place.body k0 one1 R h = evFn Tryz.prog Tryz.f103 ref01_place.ann [(.int .i64 k0), (.bool one1)] R h := by kernel_rfl
theorem ref01_place.calls {k0 : Int} {one1 : Bool} {R : Value → Heap → Prop} {h : Heap} (H : ref01_place.body k0 one1 R h) : HC Tryz.prog F.ref01_place #[(.int .i64 k0), (.bool one1)] R h :=
  evFn_sound mixed Tryz.func103 (by kernel_rfl) (ref01_place.eq k0 one1 R h ▸ H)

/-! bytes.IndexByte -/
def bytes_IndexByte.body (b0 : Sl) (c1 : Int) (R : Value → Heap → Prop) (h : Heap) : Prop :=
  externK Tryz.prog (.int .i64) F.internal_bytealg_IndexByte #[(.slice b0.a b0.n b0.c), (.int .u8 c1)] (fun (v_1 : Int) (h : Heap) =>
  R (.int .i64 v_1) h) h
def bytes_IndexByte.ann : Ann := (.seq .leaf (.seq .leaf .leaf))
theorem bytes_IndexByte.eq (b0 : Sl) (c1 : Int) (R : Value → Heap → Prop) (h : Heap) : bytes_IndexByte.body b0 c1 R h = evFn Tryz.prog Tryz.f86 bytes_IndexByte.ann [(.slice b0.a b0.n b0.c), (.int .u8 c1)] R h := by kernel_rfl
theorem bytes_IndexByte.calls {b0 : Sl} {c1 : Int} {R : Value → Heap → Prop} {h : Heap} (H : bytes_IndexByte.body b0 c1 R h) : HC Tryz.prog F.bytes_IndexByte #[(.slice b0.a b0.n b0.c), (.int .u8 c1)] R h :=
  evFn_sound mixed Tryz.func86 (by kernel_rfl) (bytes_IndexByte.eq b0 c1 R h ▸ H)

/-! (*zugzwang/codec.Writer).Tag$1 -/
def codec_Writer_Tag_1.body (t0 : Array Value) (R : Value → Heap → Prop) (h : Heap) : Prop :=
  newK h t0 T.api_Tag (fun (t_1 : Option Addr) (h : Heap) =>
  sliceArrK t_1 32 none none none (sizeOfT Tryz.prog T.uint8) (fun (v_2 : Sl) =>
  R (.slice v_2.a v_2.n v_2.c) h))
def codec_Writer_Tag_1.ann : Ann := (.seq .leaf (.seq .leaf .leaf))
theorem codec_Writer_Tag_1.eq (t0 : Array Value) (R : Value → Heap → Prop) (h : Heap) : codec_Writer_Tag_1.body t0 R h = evFn Tryz.prog Tryz.f57 codec_Writer_Tag_1.ann [(.agg t0)] R h := by kernel_rfl
theorem codec_Writer_Tag_1.calls {t0 : Array Value} {R : Value → Heap → Prop} {h : Heap} (H : codec_Writer_Tag_1.body t0 R h) : HC Tryz.prog F.codec_Writer_Tag_1 #[(.agg t0)] R h :=
  evFn_sound mixed Tryz.func57 (by kernel_rfl) (codec_Writer_Tag_1.eq t0 R h ▸ H)

/-! zugzwang/bits.Turn -/
def bits_Turn.body (x0 : Int) (n1 : Int) (R : Value → Heap → Prop) (h : Heap) : Prop :=
  divK 32
  (callK Tryz.prog (.int .u32) F.math_bits_RotateLeft32 #[(.int .u32 x0), (.int .i64 (IntKind.i64.wrap (0 - (Int.tmod n1 32))))] (fun (v_1 : Int) (h : Heap) =>
  R (.int .u32 v_1) h) h)
def bits_Turn.ann : Ann := (.seq .leaf (.seq .leaf .leaf))
theorem bits_Turn.eq (x0 : Int) (n1 : Int) (R : Value → Heap → Prop) (h : Heap) : bits_Turn.body x0 n1 R h = evFn Tryz.prog Tryz.f108 bits_Turn.ann [(.int .u32 x0), (.int .i64 n1)] R h := by kernel_rfl
theorem bits_Turn.calls {x0 : Int} {n1 : Int} {R : Value → Heap → Prop} {h : Heap} (H : bits_Turn.body x0 n1 R h) : HC Tryz.prog F.bits_Turn #[(.int .u32 x0), (.int .i64 n1)] R h :=
  evFn_sound mixed Tryz.func108 (by kernel_rfl) (bits_Turn.eq x0 n1 R h ▸ H)

/-! (*zugzwang/codec.state).sound -/
def codec_state_sound.body (s0 : Option Addr) (R : Value → Heap → Prop) (h : Heap) : Prop :=
  derefK s0 (fun (a_1 : Addr) =>
  fldK ((some a_1)) 1 (fun (a_2 : Addr) =>
  loadK (.int .i64) h ((some a_2)) (fun (v_3 : Int) =>
  R (.bool (v_3 == 0)) h)))
def codec_state_sound.ann : Ann := (.seq .leaf (.seq .leaf .leaf))
theorem codec_state_sound.eq (s0 : Option Addr) (R : Value → Heap → Prop) (h : Heap) : codec_state_sound.body s0 R h = evFn Tryz.prog Tryz.f58 codec_state_sound.ann [(.pointer s0)] R h := by kernel_rfl
theorem codec_state_sound.calls {s0 : Option Addr} {R : Value → Heap → Prop} {h : Heap} (H : codec_state_sound.body s0 R h) : HC Tryz.prog F.codec_state_sound #[(.pointer s0)] R h :=
  evFn_sound mixed Tryz.func58 (by kernel_rfl) (codec_state_sound.eq s0 R h ▸ H)

/-! zugzwang/zugzwangref02.begin -/
def ref02_begin.body  (R : Value → Heap → Prop) (h : Heap) : Prop :=
  newSlK h 8 #[(.int .u32 1779033703), (.int .u32 3144134277), (.int .u32 1013904242), (.int .u32 2773480762), (.int .u32 1359893119), (.int .u32 2600822924), (.int .u32 528734635), (.int .u32 1541459225)] T.uint32 (fun (v_1 : Sl) (h : Heap) =>
  R (.slice v_1.a v_1.n v_1.c) h)
def ref02_begin.ann : Ann := (.seq .leaf (.seq .leaf .leaf))
theorem ref02_begin.eq  (R : Value → Heap → Prop) (h : Heap) : ref02_begin.body  R h = evFn Tryz.prog Tryz.f78 ref02_begin.ann [] R h := by kernel_rfl
theorem ref02_begin.calls  {R : Value → Heap → Prop} {h : Heap} (H : ref02_begin.body  R h) : HC Tryz.prog F.ref02_begin #[] R h :=
  evFn_sound mixed Tryz.func78 (by kernel_rfl) (ref02_begin.eq  R h ▸ H)

/-! zugzwang/digest.New -/
def digest_New.body  (R : Value → Heap → Prop) (h : Heap) : Prop :=
  callK Tryz.prog .agg F.digest_begun #[] (fun (v_1 : Array Value) (h : Heap) =>
  buildK Tryz.prog (Instr.build T.digest_Hasher #[(0, (.agg v_1)), (3, (.bool true))]) (fun (v_2 : Array Value) =>
  newK h v_2 T.digest_Hasher (fun (v_3 : Option Addr) (h : Heap) =>
  R (.pointer v_3) h))) h
def digest_New.ann : Ann := (.seq .leaf (.seq .leaf .leaf))
theorem digest_New.eq  (R : Value → Heap → Prop) (h : Heap) : digest_New.body  R h = evFn Tryz.prog Tryz.f59 digest_New.ann [] R h := by kernel_rfl
theorem digest_New.calls  {R : Value → Heap → Prop} {h : Heap} (H : digest_New.body  R h) : HC Tryz.prog F.digest_New #[] R h :=
  evFn_sound mixed Tryz.func59 (by kernel_rfl) (digest_New.eq  R h ▸ H)

/-! internal/bytealg.Cutover -/
def internal_bytealg_Cutover.body (n0 : Int) (R : Value → Heap → Prop) (h : Heap) : Prop :=
  divK 8
  (R (.int .i64 (IntKind.i64.wrap (Int.tdiv (IntKind.i64.wrap (n0 + 16)) 8))) h)
def internal_bytealg_Cutover.ann : Ann := (.seq .leaf (.seq .leaf .leaf))
theorem internal_bytealg_Cutover.eq (n0 : Int) (R : Value → Heap → Prop) (h : Heap) : internal_bytealg_Cutover.body n0 R h = evFn Tryz.prog Tryz.f89 internal_bytealg_Cutover.ann [(.int .i64 n0)] R h := by kernel_rfl
theorem internal_bytealg_Cutover.calls {n0 : Int} {R : Value → Heap → Prop} {h : Heap} (H : internal_bytealg_Cutover.body n0 R h) : HC Tryz.prog F.internal_bytealg_Cutover #[(.int .i64 n0)] R h :=
  evFn_sound mixed Tryz.func89 (by kernel_rfl) (internal_bytealg_Cutover.eq n0 R h ▸ H)

/-! zugzwang/zugzwangref01.low -/
def ref01_low.body (n0 : Int) (R : Value → Heap → Prop) (h : Heap) : Prop :=
  divK 32
  (if (decide ((Int.tmod n0 32) < 0)) = true then
  R (.int .i64 (IntKind.i64.wrap ((Int.tmod n0 32) + 32))) h
  else
  R (.int .i64 (Int.tmod n0 32)) h)
def ref01_low.ann : Ann := (.seq .leaf (.seq .leaf (.seq (.seq .leaf (.cond .leaf .leaf)) (.seq .leaf .leaf))))
theorem ref01_low.eq (n0 : Int) (R : Value → Heap → Prop) (h : Heap) : ref01_low.body n0 R h = evFn Tryz.prog Tryz.f102 ref01_low.ann [(.int .i64 n0)] R h := by kernel_rfl
theorem ref01_low.calls {n0 : Int} {R : Value → Heap → Prop} {h : Heap} (H : ref01_low.body n0 R h) : HC Tryz.prog F.ref01_low #[(.int .i64 n0)] R h :=
  evFn_sound mixed Tryz.func102 (by kernel_rfl) (ref01_low.eq n0 R h ▸ H)

/-! zugzwang/bits.Shift -/
def bits_Shift.body (x0 : Int) (n1 : Int) (R : Value → Heap → Prop) (h : Heap) : Prop :=
  shiftK (if n1 < 0 then 0 else n1)
  (R (.int .u32 (Int.fdiv x0 (2 ^ min (Int.toNat (if n1 < 0 then 0 else n1)) (IntKind.bits .u32)))) h)
def bits_Shift.ann : Ann := (.seq .leaf (.seq .leaf .leaf))
theorem bits_Shift.eq (x0 : Int) (n1 : Int) (R : Value → Heap → Prop) (h : Heap) : bits_Shift.body x0 n1 R h = evFn Tryz.prog Tryz.f94 bits_Shift.ann [(.int .u32 x0), (.int .i64 n1)] R h := by kernel_rfl
theorem bits_Shift.calls {x0 : Int} {n1 : Int} {R : Value → Heap → Prop} {h : Heap} (H : bits_Shift.body x0 n1 R h) : HC Tryz.prog F.bits_Shift #[(.int .u32 x0), (.int .i64 n1)] R h :=
  evFn_sound mixed Tryz.func94 (by kernel_rfl) (bits_Shift.eq x0 n1 R h ▸ H)

/-! zugzwang/codec.New -/
def codec_New.body  (R : Value → Heap → Prop) (h : Heap) : Prop :=
  buildK Tryz.prog (Instr.build T.codec_state #[(0, (.bool true))]) (fun (v_1 : Array Value) =>
  buildK Tryz.prog (Instr.build T.codec_Writer #[(0, (.agg v_1))]) (fun (v_2 : Array Value) =>
  newK h v_2 T.codec_Writer (fun (v_3 : Option Addr) (h : Heap) =>
  R (.pointer v_3) h)))
def codec_New.ann : Ann := (.seq .leaf (.seq .leaf .leaf))
theorem codec_New.eq  (R : Value → Heap → Prop) (h : Heap) : codec_New.body  R h = evFn Tryz.prog Tryz.f18 codec_New.ann [] R h := by kernel_rfl
theorem codec_New.calls  {R : Value → Heap → Prop} {h : Heap} (H : codec_New.body  R h) : HC Tryz.prog F.codec_New #[] R h :=
  evFn_sound mixed Tryz.func18 (by kernel_rfl) (codec_New.eq  R h ▸ H)

/-! zugzwang/zugzwangref01.bit -/
def ref01_bit.body (x0 : Int) (k1 : Int) (R : Value → Heap → Prop) (h : Heap) : Prop :=
  shiftK k1
  (divK 2
  (R (.bool ((Int.tmod (Int.fdiv x0 (2 ^ min (Int.toNat k1) (IntKind.bits .u32))) 2) == 1)) h))
def ref01_bit.ann : Ann := (.seq .leaf (.seq .leaf .leaf))
theorem ref01_bit.eq (x0 : Int) (k1 : Int) (R : Value → Heap → Prop) (h : Heap) : ref01_bit.body x0 k1 R h = evFn Tryz.prog Tryz.f101 ref01_bit.ann [(.int .u32 x0), (.int .i64 k1)] R h := by kernel_rfl
theorem ref01_bit.calls {x0 : Int} {k1 : Int} {R : Value → Heap → Prop} {h : Heap} (H : ref01_bit.body x0 k1 R h) : HC Tryz.prog F.ref01_bit #[(.int .u32 x0), (.int .i64 k1)] R h :=
  evFn_sound mixed Tryz.func101 (by kernel_rfl) (ref01_bit.eq x0 k1 R h ▸ H)

/-! zugzwang/zugzwangkit.mark -/
def kit_mark.body (k0 : Int) (i1 : Int) (R : Value → Heap → Prop) (h : Heap) : Prop :=
  R (.int .i64 (IntKind.i64.wrap ((IntKind.i64.wrap (1000003 * (IntKind.i64.wrap (k0 + 7)))) + i1))) h
def kit_mark.ann : Ann := (.seq .leaf (.seq .leaf .leaf))
theorem kit_mark.eq (k0 : Int) (i1 : Int) (R : Value → Heap → Prop) (h : Heap) : kit_mark.body k0 i1 R h = evFn Tryz.prog Tryz.f75 kit_mark.ann [(.int .i64 k0), (.int .i64 i1)] R h := by kernel_rfl
theorem kit_mark.calls {k0 : Int} {i1 : Int} {R : Value → Heap → Prop} {h : Heap} (H : kit_mark.body k0 i1 R h) : HC Tryz.prog F.kit_mark #[(.int .i64 k0), (.int .i64 i1)] R h :=
  evFn_sound mixed Tryz.func75 (by kernel_rfl) (kit_mark.eq k0 i1 R h ▸ H)

/-! zugzwang/msg.move$1 -/
def msg_move_1.body (s0 : Int) (R : Value → Heap → Prop) (h : Heap) : Prop :=
  if (decide (s0 ≥ 0)) = true then
  R (.bool (decide (s0 < 64))) h
  else
  R (.bool false) h
def msg_move_1.ann : Ann := (.seq .leaf (.seq .leaf .leaf))
theorem msg_move_1.eq (s0 : Int) (R : Value → Heap → Prop) (h : Heap) : msg_move_1.body s0 R h = evFn Tryz.prog Tryz.f91 msg_move_1.ann [(.int .i64 s0)] R h := by kernel_rfl
theorem msg_move_1.calls {s0 : Int} {R : Value → Heap → Prop} {h : Heap} (H : msg_move_1.body s0 R h) : HC Tryz.prog F.msg_move_1 #[(.int .i64 s0)] R h :=
  evFn_sound mixed Tryz.func91 (by kernel_rfl) (msg_move_1.eq s0 R h ▸ H)

/-! zugzwang/commit.bit -/
def commit_bit.body (n0 : Int) (R : Value → Heap → Prop) (h : Heap) : Prop :=
  if (n0 == 0) = true then
  R (.bool true) h
  else
  R (.bool (n0 == 1)) h
def commit_bit.ann : Ann := (.seq .leaf (.seq .leaf .leaf))
theorem commit_bit.eq (n0 : Int) (R : Value → Heap → Prop) (h : Heap) : commit_bit.body n0 R h = evFn Tryz.prog Tryz.f29 commit_bit.ann [(.int .i64 n0)] R h := by kernel_rfl
theorem commit_bit.calls {n0 : Int} {R : Value → Heap → Prop} {h : Heap} (H : commit_bit.body n0 R h) : HC Tryz.prog F.commit_bit #[(.int .i64 n0)] R h :=
  evFn_sound mixed Tryz.func29 (by kernel_rfl) (commit_bit.eq n0 R h ▸ H)

end Go.Proofs.YtafjmdeldejonaaGreat
