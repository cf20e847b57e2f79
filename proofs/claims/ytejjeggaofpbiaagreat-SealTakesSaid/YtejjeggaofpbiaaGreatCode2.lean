import Derived.Test.YtejjeggaofpbiaaGreatSig
set_option linter.unusedVariables false
set_option maxRecDepth 100000
namespace Go.Proofs.YtejjeggaofpbiaaGreat
open Go.Ev
/-! zugzwang/zugzwanglaw24.SealTakes -/
def law24_SealTakes.body (game0 : Array Value) (l1 : Sl) (R : Value → Heap → Prop) (h : Heap) : Prop :=
  newK h game0 T.api_Tag (fun (game_1 : Option Addr) h =>
  if (decide (((l1.n : Int)) > 120)) = true then
  callK Tryz.prog .bool F.law24_awake #[] (fun (v2 : Bool) h =>
  R (.bool v2) h) h
  else
  buildK Tryz.prog (Instr.build T.zugzwangref04_Maker #[(0, (.bool true))]) (fun (v3 : Array Value) =>
  newK h v3 T.zugzwangref04_Maker (fun (v4 : Option Addr) h =>
  loadAggK (sizeOfT Tryz.prog T.api_Tag) h game_1 (fun (v5 : Array Value) =>
  callK Tryz.prog .ptr F.tags_New #[.bool true, .slice none 0 0] (fun (v6 : Option Addr) h =>
  stillAggK (sizeOfT Tryz.prog T.api_Tag) h game_1 v5 ∧
  callK Tryz.prog (Kd.pair .ptr (.int .i64)) F.seal_New #[.pointer v6, .agg v5] (fun (v7 : Option Addr × Int) h =>
  loadAggK (sizeOfT Tryz.prog T.api_Tag) h game_1 (fun (v8 : Array Value) =>
  callK Tryz.prog .ptr F.ref24_New #[.pointer v4, .agg v8] (fun (v9 : Option Addr) h =>
  if (v7.2 != 0) = true then
  R (.bool false) h
  else
  loopW (fun X_11 (s_10 : Option Addr × Int × Int) (h : Heap) =>
  if (decide (s_10.2.2 < ((l1.n : Int)))) = true then
  idxK l1 s_10.2.2 (sizeOfT Tryz.prog T.zugzwanglaw24_Deed) (fun (a_12 : Addr) =>
  fldK ((some a_12)) 0 (fun (a_13 : Addr) =>
  loadK (.int .i64) h ((some a_13)) (fun (v14 : Int) =>
  callK Tryz.prog (.int .i64) F.kit_Pick #[.int .i64 v14, .int .i64 8] (fun (v15 : Int) h =>
  if (v15 == 7) = true then
  callK Tryz.prog .ptr F.seal_Envelope_Copy #[.pointer s_10.1] (fun (v16 : Option Addr) h =>
  loadAggK (sizeOfT Tryz.prog T.api_Tag) h game_1 (fun (v17 : Array Value) =>
  buildK Tryz.prog (Instr.build T.api_Tag #[(0, (.int .u8 1))]) (fun (v18 : Array Value) =>
  buildK Tryz.prog (Instr.build T.zugzwanglaw24_Deed #[(0, (.int .i64 1)), (3, (.agg v18))]) (fun (v19 : Array Value) =>
  callK Tryz.prog .agg F.law24_entry #[.pointer v4, .agg v17, .int .i64 s_10.2.1, .agg v19] (fun (v20 : Array Value) h =>
  opK Tryz.prog .slice (Instr.buildSlice T.sl_api_Entry 1 #[(0, (.agg v20))]) (fun (v21 : Sl) h =>
  callK Tryz.prog (.int .i64) F.seal_Envelope_Take #[.pointer s_10.1, .slice v21.a v21.n v21.c] (fun (v22 : Int) h =>
  X_11 (v16, s_10.2.1, IntKind.i64.wrap (s_10.2.2 + 1)) h) h) h) h)))) h
  else
  idxK l1 s_10.2.2 (sizeOfT Tryz.prog T.zugzwanglaw24_Deed) (fun (a_23 : Addr) =>
  idxK l1 s_10.2.2 (sizeOfT Tryz.prog T.zugzwanglaw24_Deed) (fun (a_24 : Addr) =>
  fldK ((some a_24)) 37 (fun (a_25 : Addr) =>
  divK 5
  (divK 4
  (loadAggK (sizeOfT Tryz.prog T.api_Tag) h game_1 (fun (v26 : Array Value) =>
  loadAggK (sizeOfT Tryz.prog T.zugzwanglaw24_Deed) h ((some a_23)) (fun (v27 : Array Value) =>
  loadAggK (sizeOfT Tryz.prog T.api_Entry) h ((some a_25)) (fun (v28 : Array Value) =>
  callK Tryz.prog .agg F.law24_entry #[.pointer v4, .agg v26, .int .i64 s_10.2.1, .agg v27] (fun (v29 : Array Value) h =>
  stillAggK (sizeOfT Tryz.prog T.api_Entry) h ((some a_25)) v28 ∧
  opK Tryz.prog .slice (Instr.buildSlice T.sl_api_Entry 2 #[(0, (.agg v29)), (1, (.agg v28))]) (fun (v30 : Sl) h =>
  sliceK v30 none (some (IntKind.i64.wrap (1 + (IntKind.i64.wrap (Int.tdiv (Int.tmod s_10.2.2 5) 4))))) none (sizeOfT Tryz.prog T.api_Entry) (fun (v31 : Sl) =>
  callK Tryz.prog .slice F.kit_LentEntries #[.slice v31.a v31.n v31.c] (fun (v32 : Sl) h =>
  idxK v31 0 (sizeOfT Tryz.prog T.api_Entry) (fun (a_33 : Addr) =>
  idxK v31 0 (sizeOfT Tryz.prog T.api_Entry) (fun (a_34 : Addr) =>
  loadAggK (sizeOfT Tryz.prog T.api_Entry) h ((some a_33)) (fun (v35 : Array Value) =>
  loadAggK (sizeOfT Tryz.prog T.api_Entry) h ((some a_34)) (fun (v36 : Array Value) =>
  callK Tryz.prog (.int .i64) F.seal_Envelope_Why #[.pointer s_10.1, .agg v35] (fun (v37 : Int) h =>
  stillAggK (sizeOfT Tryz.prog T.api_Entry) h ((some a_34)) v36 ∧
  callK Tryz.prog (.int .i64) F.ref24_Envelope_Why #[.pointer v9, .agg v36] (fun (v38 : Int) h =>
  if (v37 != v38) = true then
  R (.bool false) h
  else
  callK Tryz.prog .bool F.law24_same #[.pointer s_10.1, .pointer v9] (fun (v39 : Bool) h =>
  if (!v39) = true then
  R (.bool false) h
  else
  callK Tryz.prog (.int .i64) F.ref24_Envelope_Take #[.pointer v9, .slice v31.a v31.n v31.c] (fun (v40 : Int) h =>
  callK Tryz.prog (.int .i64) F.seal_Envelope_Take #[.pointer s_10.1, .slice v32.a v32.n v32.c] (fun (v41 : Int) h =>
  if (v41 != v40) = true then
  R (.bool false) h
  else
  callK Tryz.prog .bool F.kit_KeptEntries #[.slice v32.a v32.n v32.c, .slice v31.a v31.n v31.c] (fun (v42 : Bool) h =>
  if (!v42) = true then
  R (.bool false) h
  else
  callK Tryz.prog .bool F.law24_same #[.pointer s_10.1, .pointer v9] (fun (v43 : Bool) h =>
  if (!v43) = true then
  R (.bool false) h
  else
  if (v40 == 0) = true then
  X_11 (s_10.1, IntKind.i64.wrap (s_10.2.1 + 1), IntKind.i64.wrap (s_10.2.2 + 1)) h
  else
  X_11 (s_10.1, s_10.2.1, IntKind.i64.wrap (s_10.2.2 + 1)) h) h) h) h) h) h) h) h))))) h)) h) h))))))))) h)))
  else
  callK Tryz.prog .bool F.law24_awake #[] (fun (v44 : Bool) h =>
  R (.bool v44) h) h) (v7.1, 0, 0) h) h)) h) h))))
def law24_SealTakes.ann : Ann := (.seq .leaf (.seq (.seq .leaf (.cond (.seq .leaf .leaf) .leaf)) (.seq .leaf (.seq (.any (.st 1 252 (.last 0 (.last 2 (.loc 3 (.loc 4 (.loc 5 (.loc 6 (.loc 7 .done))))))))) (.seq .leaf (.seq (.seq .leaf (.cond (.seq .leaf .leaf) .leaf)) (.seq .leaf (.seq (.seq .leaf (.block (.loop [(6, .ptr), (9, (.int .i64)), (10, (.int .i64))] (.seq (.seq .leaf (.cond .leaf .leaf)) (.seq (.block (.seq (.seq .leaf (.cond (.seq .leaf (.seq .leaf (.seq .leaf .leaf))) .leaf)) (.seq (.any (.loc 0 (.loc 2 (.loc 3 (.loc 4 (.loc 5 (.loc 8 (.loc 9 (.loc 10 (.loc 11 (.loc 14 (.loc 15 (.loc 16 (.loc 17 (.st 1 794752 (.st 6 794752 (.st 12 794624 (.last 7 (.last 13 (.loc 18 (.loc 19 .done))))))))))))))))))))) (.seq .leaf (.seq (.seq (.any (.loc 0 (.loc 1 (.loc 2 (.loc 5 (.loc 6 (.loc 7 (.st 3 130576 (.st 8 130560 (.last 4 (.last 9 (.loc 10 (.loc 11 (.locA 12 (.loc 13 (.loc 14 (.loc 15 (.loc 16 .done)))) (.loc 13 (.last 14 (.loc 15 (.loc 16 .done)))))))))))))))))) (.cond (.seq .leaf .leaf) .leaf)) (.seq .leaf (.seq (.seq .leaf (.cond (.seq .leaf .leaf) .leaf)) (.seq .leaf (.cond .leaf .leaf))))))))) .leaf))))) (.seq .leaf .leaf)))))))))
theorem law24_SealTakes.eq (game0 : Array Value) (l1 : Sl) (R : Value → Heap → Prop) (h : Heap) : law24_SealTakes.body game0 l1 R h = evFn Tryz.prog Tryz.f4 law24_SealTakes.ann [.agg game0, .slice l1.a l1.n l1.c] R h := by kernel_rfl
theorem law24_SealTakes.calls {game0 : Array Value} {l1 : Sl} {R : Value → Heap → Prop} {h : Heap} (H : law24_SealTakes.body game0 l1 R h) : HC Tryz.prog F.law24_SealTakes #[.agg game0, .slice l1.a l1.n l1.c] R h :=
  evFn_sound mixed Tryz.func4 (by kernel_rfl) (law24_SealTakes.eq game0 l1 R h ▸ H)

end Go.Proofs.YtejjeggaofpbiaaGreat
