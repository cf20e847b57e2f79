import Derived.Test.YtobdneijofchkaaGreatSig
set_option linter.unusedVariables false
set_option maxRecDepth 100000
namespace Go.Proofs.YtobdneijofchkaaGreat
open Go.Ev
/-! (*zugzwang/chain.Chain).made -/
def chain_Chain_made.body (c0 : Option Addr) (R : Value → Heap → Prop) (h : Heap) : Prop :=
  if (!c0.isNone) = true then
  derefK c0 (fun (a_1 : Addr) =>
  fldK ((some a_1)) 0 (fun (a_2 : Addr) =>
  fldK ((some a_2)) 0 (fun (a_3 : Addr) =>
  loadK .ptr h ((some a_3)) (fun (v_4 : Option Addr) =>
  R (.bool (!v_4.isNone)) h))))
  else
  R (.bool false) h
def chain_Chain_made.ann : Ann := (.seq .leaf (.seq .leaf .leaf))
theorem chain_Chain_made.eq (c0 : Option Addr) (R : Value → Heap → Prop) (h : Heap) : chain_Chain_made.body c0 R h = evFn Tryz.prog Tryz.f24 chain_Chain_made.ann [(.pointer c0)] R h := by kernel_rfl
theorem chain_Chain_made.calls {c0 : Option Addr} {R : Value → Heap → Prop} {h : Heap} (H : chain_Chain_made.body c0 R h) : HC Tryz.prog F.chain_Chain_made #[(.pointer c0)] R h :=
  evFn_sound mixed Tryz.func24 (by kernel_rfl) (chain_Chain_made.eq c0 R h ▸ H)

/-! (*zugzwang/chain.Chain).Len -/
def chain_Chain_Len.body (c0 : Option Addr) (R : Value → Heap → Prop) (h : Heap) : Prop :=
  callK Tryz.prog .bool F.chain_Chain_made #[(.pointer c0)] (fun (v_1 : Bool) (h : Heap) =>
  if (!v_1) = true then
  R (.int .i64 0) h
  else
  derefK c0 (fun (a_2 : Addr) =>
  fldK ((some a_2)) 33 (fun (a_3 : Addr) =>
  loadK .slice h ((some a_3)) (fun (v_4 : Sl) =>
  R (.int .i64 ((v_4.n : Int))) h)))) h
def chain_Chain_Len.ann : Ann := (.seq .leaf (.seq (.seq .leaf (.cond (.seq .leaf .leaf) .leaf)) (.seq .leaf .leaf)))
theorem chain_Chain_Len.eq (c0 : Option Addr) (R : Value → Heap → Prop) (h : Heap) : chain_Chain_Len.body c0 R h = evFn Tryz.prog Tryz.f23 chain_Chain_Len.ann [(.pointer c0)] R h := by kernel_rfl
theorem chain_Chain_Len.calls {c0 : Option Addr} {R : Value → Heap → Prop} {h : Heap} (H : chain_Chain_Len.body c0 R h) : HC Tryz.prog F.chain_Chain_Len #[(.pointer c0)] R h :=
  evFn_sound mixed Tryz.func23 (by kernel_rfl) (chain_Chain_Len.eq c0 R h ▸ H)

/-! zugzwang/msg.move$1 -/
def msg_move_1.body (s0 : Int) (R : Value → Heap → Prop) (h : Heap) : Prop :=
  if (decide (s0 ≥ 0)) = true then
  R (.bool (decide (s0 < 64))) h
  else
  R (.bool false) h
def msg_move_1.ann : Ann := (.seq .leaf (.seq .leaf .leaf))
theorem msg_move_1.eq (s0 : Int) (R : Value → Heap → Prop) (h : Heap) : msg_move_1.body s0 R h = evFn Tryz.prog Tryz.f78 msg_move_1.ann [(.int .i64 s0)] R h := by kernel_rfl
theorem msg_move_1.calls {s0 : Int} {R : Value → Heap → Prop} {h : Heap} (H : msg_move_1.body s0 R h) : HC Tryz.prog F.msg_move_1 #[(.int .i64 s0)] R h :=
  evFn_sound mixed Tryz.func78 (by kernel_rfl) (msg_move_1.eq s0 R h ▸ H)

/-! zugzwang/msg.move -/
def msg_move.body (m0 : Array Value) (R : Value → Heap → Prop) (h : Heap) : Prop :=
  newK h m0 T.api_Move (fun (m_1 : Option Addr) (h : Heap) =>
  fldK m_1 0 (fun (a_2 : Addr) =>
  loadK (.int .i64) h ((some a_2)) (fun (v_3 : Int) =>
  callV Tryz.prog .bool ((Value.func (.func F.msg_move_1) #[] #[])) #[(.int .i64 v_3)] (fun (v_4 : Bool) (h : Heap) =>
  if v_4 = true then
  fldK m_1 1 (fun (a_5 : Addr) =>
  loadK (.int .i64) h ((some a_5)) (fun (v_6 : Int) =>
  callV Tryz.prog .bool ((Value.func (.func F.msg_move_1) #[] #[])) #[(.int .i64 v_6)] (fun (v_7 : Bool) (h : Heap) =>
  if v_7 = true then
  fldK m_1 2 (fun (a_8 : Addr) =>
  loadK (.int .i64) h ((some a_8)) (fun (v_9 : Int) =>
  if (v_9 == 0) = true then
  R (.bool true) h
  else
  fldK m_1 2 (fun (a_10 : Addr) =>
  loadK (.int .i64) h ((some a_10)) (fun (v_11 : Int) =>
  if (decide (v_11 ≥ 2)) = true then
  fldK m_1 2 (fun (a_12 : Addr) =>
  loadK (.int .i64) h ((some a_12)) (fun (v_13 : Int) =>
  R (.bool (decide (v_13 ≤ 5))) h))
  else
  R (.bool false) h))))
  else
  R (.bool false) h) h))
  else
  R (.bool false) h) h)))
def msg_move.ann : Ann := (.seq .leaf (.seq .leaf (.seq .leaf .leaf)))
theorem msg_move.eq (m0 : Array Value) (R : Value → Heap → Prop) (h : Heap) : msg_move.body m0 R h = evFn Tryz.prog Tryz.f65 msg_move.ann [(.agg m0)] R h := by kernel_rfl
theorem msg_move.calls {m0 : Array Value} {R : Value → Heap → Prop} {h : Heap} (H : msg_move.body m0 R h) : HC Tryz.prog F.msg_move #[(.agg m0)] R h :=
  evFn_sound mixed Tryz.func65 (by kernel_rfl) (msg_move.eq m0 R h ▸ H)

/-! zugzwang/msg.named -/
def msg_named.body (b0 : Array Value) (R : Value → Heap → Prop) (h : Heap) : Prop :=
  newK h b0 T.api_Body (fun (b_1 : Option Addr) (h : Heap) =>
  newK h (zerosOf Tryz.prog T.api_Body) T.api_Body (fun (has_2 : Option Addr) (h : Heap) =>
  fldK b_1 0 (fun (a_3 : Addr) =>
  loadK (.int .i64) h ((some a_3)) (fun (v_4 : Int) =>
  fldK has_2 0 (fun (a_5 : Addr) =>
  storeK h ((some a_5)) (.int .i64 v_4) (fun (h : Heap) =>
  fldK b_1 0 (fun (a_6 : Addr) =>
  loadK (.int .i64) h ((some a_6)) (fun (v_7 : Int) =>
  if (v_7 == 1) = true then
  fldK b_1 1 (fun (a_8 : Addr) =>
  fldK b_1 4 (fun (a_9 : Addr) =>
  fldK b_1 1 (fun (a_10 : Addr) =>
  loadAggK (sizeOfT Tryz.prog T.api_Move) h ((some a_8)) (fun (v_11 : Array Value) =>
  fldK has_2 1 (fun (a_12 : Addr) =>
  loadK .bool h ((some a_9)) (fun (v_13 : Bool) =>
  loadAggK (sizeOfT Tryz.prog T.api_Move) h ((some a_10)) (fun (v_14 : Array Value) =>
  callK Tryz.prog .bool F.msg_move #[(.agg v_14)] (fun (v_15 : Bool) (h : Heap) =>
  stillK .bool h ((some a_9)) v_13 ∧
  stillAggK (sizeOfT Tryz.prog T.api_Move) h ((some a_8)) v_11 ∧
  storeAggK (sizeOfT Tryz.prog T.api_Move) h ((some a_12)) v_11 (fun (h : Heap) =>
  stillK .bool h ((some a_9)) v_13 ∧
  fldK has_2 4 (fun (a_16 : Addr) =>
  storeK h ((some a_16)) (.bool v_13) (fun (h : Heap) =>
  loadAggK (sizeOfT Tryz.prog T.api_Body) h has_2 (fun (v_17 : Array Value) =>
  storeAggK (sizeOfT Tryz.prog T.api_Body) h has_2 v_17 (fun (h : Heap) =>
  quietK Tryz.prog .agg (Instr.loadAt T.api_Body (.pointer has_2)) (fun (r_18 : Array Value) =>
  R (.tuple #[(.agg r_18), (.bool v_15)]) h) h)))))) h)))))))
  else
  if (v_7 == 2) = true then
  fldK b_1 5 (fun (a_19 : Addr) =>
  fldK b_1 5 (fun (a_20 : Addr) =>
  loadK (.int .i64) h ((some a_19)) (fun (v_21 : Int) =>
  fldK has_2 5 (fun (a_22 : Addr) =>
  loadK (.int .i64) h ((some a_20)) (fun (v_23 : Int) =>
  if (v_23 == 6) = true then
  storeK h ((some a_22)) (.int .i64 v_21) (fun (h : Heap) =>
  loadAggK (sizeOfT Tryz.prog T.api_Body) h has_2 (fun (v_24 : Array Value) =>
  storeAggK (sizeOfT Tryz.prog T.api_Body) h has_2 v_24 (fun (h : Heap) =>
  quietK Tryz.prog .agg (Instr.loadAt T.api_Body (.pointer has_2)) (fun (r_25 : Array Value) =>
  R (.tuple #[(.agg r_25), (.bool true)]) h) h)))
  else
  fldK b_1 5 (fun (a_26 : Addr) =>
  loadK (.int .i64) h ((some a_26)) (fun (v_27 : Int) =>
  storeK h ((some a_22)) (.int .i64 v_21) (fun (h : Heap) =>
  stillK (.int .i64) h ((some a_26)) v_27 ∧
  loadAggK (sizeOfT Tryz.prog T.api_Body) h has_2 (fun (v_28 : Array Value) =>
  storeAggK (sizeOfT Tryz.prog T.api_Body) h has_2 v_28 (fun (h : Heap) =>
  quietK Tryz.prog .agg (Instr.loadAt T.api_Body (.pointer has_2)) (fun (r_29 : Array Value) =>
  R (.tuple #[(.agg r_29), (.bool (v_27 == 7))]) h) h))))))))))
  else
  if (v_7 == 5) = true then
  fldK b_1 6 (fun (a_30 : Addr) =>
  loadAggK (sizeOfT Tryz.prog T.api_Tag) h ((some a_30)) (fun (v_31 : Array Value) =>
  fldK has_2 6 (fun (a_32 : Addr) =>
  storeAggK (sizeOfT Tryz.prog T.api_Tag) h ((some a_32)) v_31 (fun (h : Heap) =>
  loadAggK (sizeOfT Tryz.prog T.api_Body) h has_2 (fun (v_33 : Array Value) =>
  storeAggK (sizeOfT Tryz.prog T.api_Body) h has_2 v_33 (fun (h : Heap) =>
  quietK Tryz.prog .agg (Instr.loadAt T.api_Body (.pointer has_2)) (fun (r_34 : Array Value) =>
  R (.tuple #[(.agg r_34), (.bool true)]) h) h))))))
  else
  if (v_7 == 7) = true then
  fldK b_1 1 (fun (a_35 : Addr) =>
  fldK b_1 38 (fun (a_36 : Addr) =>
  fldK b_1 1 (fun (a_37 : Addr) =>
  loadAggK (sizeOfT Tryz.prog T.api_Move) h ((some a_35)) (fun (v_38 : Array Value) =>
  fldK has_2 1 (fun (a_39 : Addr) =>
  loadAggK (sizeOfT Tryz.prog T.api_Tag) h ((some a_36)) (fun (v_40 : Array Value) =>
  loadAggK (sizeOfT Tryz.prog T.api_Move) h ((some a_37)) (fun (v_41 : Array Value) =>
  callK Tryz.prog .bool F.msg_move #[(.agg v_41)] (fun (v_42 : Bool) (h : Heap) =>
  stillAggK (sizeOfT Tryz.prog T.api_Tag) h ((some a_36)) v_40 ∧
  stillAggK (sizeOfT Tryz.prog T.api_Move) h ((some a_35)) v_38 ∧
  storeAggK (sizeOfT Tryz.prog T.api_Move) h ((some a_39)) v_38 (fun (h : Heap) =>
  stillAggK (sizeOfT Tryz.prog T.api_Tag) h ((some a_36)) v_40 ∧
  fldK has_2 38 (fun (a_43 : Addr) =>
  storeAggK (sizeOfT Tryz.prog T.api_Tag) h ((some a_43)) v_40 (fun (h : Heap) =>
  loadAggK (sizeOfT Tryz.prog T.api_Body) h has_2 (fun (v_44 : Array Value) =>
  storeAggK (sizeOfT Tryz.prog T.api_Body) h has_2 v_44 (fun (h : Heap) =>
  quietK Tryz.prog .agg (Instr.loadAt T.api_Body (.pointer has_2)) (fun (r_45 : Array Value) =>
  R (.tuple #[(.agg r_45), (.bool v_42)]) h) h)))))) h)))))))
  else
  if (v_7 == 3) = true then
  if (v_7 == 3) = true then
  loadAggK (sizeOfT Tryz.prog T.api_Body) h has_2 (fun (v_46 : Array Value) =>
  storeAggK (sizeOfT Tryz.prog T.api_Body) h has_2 v_46 (fun (h : Heap) =>
  quietK Tryz.prog .agg (Instr.loadAt T.api_Body (.pointer has_2)) (fun (r_47 : Array Value) =>
  R (.tuple #[(.agg r_47), (.bool true)]) h) h))
  else
  loadAggK (sizeOfT Tryz.prog T.api_Body) h has_2 (fun (v_48 : Array Value) =>
  storeAggK (sizeOfT Tryz.prog T.api_Body) h has_2 v_48 (fun (h : Heap) =>
  quietK Tryz.prog .agg (Instr.loadAt T.api_Body (.pointer has_2)) (fun (r_49 : Array Value) =>
  R (.tuple #[(.agg r_49), (.bool false)]) h) h))
  else
  if (v_7 == 4) = true then
  if (v_7 == 4) = true then
  loadAggK (sizeOfT Tryz.prog T.api_Body) h has_2 (fun (v_50 : Array Value) =>
  storeAggK (sizeOfT Tryz.prog T.api_Body) h has_2 v_50 (fun (h : Heap) =>
  quietK Tryz.prog .agg (Instr.loadAt T.api_Body (.pointer has_2)) (fun (r_51 : Array Value) =>
  R (.tuple #[(.agg r_51), (.bool true)]) h) h))
  else
  loadAggK (sizeOfT Tryz.prog T.api_Body) h has_2 (fun (v_52 : Array Value) =>
  storeAggK (sizeOfT Tryz.prog T.api_Body) h has_2 v_52 (fun (h : Heap) =>
  quietK Tryz.prog .agg (Instr.loadAt T.api_Body (.pointer has_2)) (fun (r_53 : Array Value) =>
  R (.tuple #[(.agg r_53), (.bool false)]) h) h))
  else
  if (v_7 == 6) = true then
  loadAggK (sizeOfT Tryz.prog T.api_Body) h has_2 (fun (v_54 : Array Value) =>
  storeAggK (sizeOfT Tryz.prog T.api_Body) h has_2 v_54 (fun (h : Heap) =>
  quietK Tryz.prog .agg (Instr.loadAt T.api_Body (.pointer has_2)) (fun (r_55 : Array Value) =>
  R (.tuple #[(.agg r_55), (.bool true)]) h) h))
  else
  loadAggK (sizeOfT Tryz.prog T.api_Body) h has_2 (fun (v_56 : Array Value) =>
  storeAggK (sizeOfT Tryz.prog T.api_Body) h has_2 v_56 (fun (h : Heap) =>
  quietK Tryz.prog .agg (Instr.loadAt T.api_Body (.pointer has_2)) (fun (r_57 : Array Value) =>
  R (.tuple #[(.agg r_57), (.bool false)]) h) h))))))))))
def msg_named.ann : Ann := (.seq .leaf (.seq .leaf (.seq (.seq .leaf (.block (.seq .leaf (.cond (.any (.loc 0 (.loc 2 (.loc 4 (.st 1 3968 (.loc 7 (.st 3 3584 (.st 5 3904 (.last 6 (.last 8 (.loc 9 (.last 10 (.loc 11 .done))))))))))))) (.seq .leaf (.cond (.any (.loc 0 (.loc 2 (.st 1 7168 (.loc 10 (.st 3 7152 (.loc 4 (.loc 5 (.locA 6 (.loc 7 (.loc 8 (.loc 9 (.last 11 (.loc 12 .done))))) (.st 7 4864 (.loc 8 (.loc 9 (.last 11 (.loc 12 .done)))))))))))))) (.seq .leaf (.cond .leaf (.seq .leaf (.cond (.any (.loc 0 (.loc 2 (.loc 4 (.st 1 3968 (.loc 7 (.st 3 3584 (.st 5 3904 (.last 6 (.last 8 (.loc 9 (.last 10 (.loc 11 .done))))))))))))) (.seq (.seq .leaf (.cond .leaf (.seq .leaf (.cond .leaf .leaf)))) (.cond .leaf .leaf)))))))))))) (.seq .leaf .leaf))))
theorem msg_named.eq (b0 : Array Value) (R : Value → Heap → Prop) (h : Heap) : msg_named.body b0 R h = evFn Tryz.prog Tryz.f51 msg_named.ann [(.agg b0)] R h := by kernel_rfl
theorem msg_named.calls {b0 : Array Value} {R : Value → Heap → Prop} {h : Heap} (H : msg_named.body b0 R h) : HC Tryz.prog F.msg_named #[(.agg b0)] R h :=
  evFn_sound mixed Tryz.func51 (by kernel_rfl) (msg_named.eq b0 R h ▸ H)

/-! zugzwang/msg.Body -/
def msg_Body.body (b0 : Array Value) (R : Value → Heap → Prop) (h : Heap) : Prop :=
  newK h b0 T.api_Body (fun (b_1 : Option Addr) (h : Heap) =>
  loadAggK (sizeOfT Tryz.prog T.api_Body) h b_1 (fun (v_2 : Array Value) =>
  callK Tryz.prog (Kd.pair .agg .bool) F.msg_named #[(.agg v_2)] (fun (v_3 : Array Value × Bool) (h : Heap) =>
  newK h (zerosOf Tryz.prog T.api_Body) T.api_Body (fun (has_4 : Option Addr) (h : Heap) =>
  storeAggK (sizeOfT Tryz.prog T.api_Body) h has_4 v_3.1 (fun (h : Heap) =>
  if v_3.2 = true then
  loadAggK (sizeOfT Tryz.prog T.api_Body) h has_4 (fun (v_5 : Array Value) =>
  loadAggK (sizeOfT Tryz.prog T.api_Body) h b_1 (fun (v_6 : Array Value) =>
  eqK Tryz.prog (binSem .eql T.api_Body (.tmp 12) (.tmp 13) (.agg v_5) (.agg v_6)) (fun (v_7 : Bool) =>
  R (.bool v_7) h)))
  else
  R (.bool false) h))) h))
def msg_Body.ann : Ann := (.seq .leaf (.seq .leaf (.seq .leaf .leaf)))
theorem msg_Body.eq (b0 : Array Value) (R : Value → Heap → Prop) (h : Heap) : msg_Body.body b0 R h = evFn Tryz.prog Tryz.f25 msg_Body.ann [(.agg b0)] R h := by kernel_rfl
theorem msg_Body.calls {b0 : Array Value} {R : Value → Heap → Prop} {h : Heap} (H : msg_Body.body b0 R h) : HC Tryz.prog F.msg_Body #[(.agg b0)] R h :=
  evFn_sound mixed Tryz.func25 (by kernel_rfl) (msg_Body.eq b0 R h ▸ H)

/-! (*zugzwang/tags.Maker).there -/
def tags_Maker_there.body (m0 : Option Addr) (R : Value → Heap → Prop) (h : Heap) : Prop :=
  if (!m0.isNone) = true then
  derefK m0 (fun (a_1 : Addr) =>
  fldK ((some a_1)) 0 (fun (a_2 : Addr) =>
  fldK ((some a_2)) 0 (fun (a_3 : Addr) =>
  loadK .map h ((some a_3)) (fun (v_4 : Option Nat) =>
  R (.bool (!v_4.isNone)) h))))
  else
  R (.bool false) h
def tags_Maker_there.ann : Ann := (.seq .leaf (.seq .leaf .leaf))
theorem tags_Maker_there.eq (m0 : Option Addr) (R : Value → Heap → Prop) (h : Heap) : tags_Maker_there.body m0 R h = evFn Tryz.prog Tryz.f47 tags_Maker_there.ann [(.pointer m0)] R h := by kernel_rfl
theorem tags_Maker_there.calls {m0 : Option Addr} {R : Value → Heap → Prop} {h : Heap} (H : tags_Maker_there.body m0 R h) : HC Tryz.prog F.tags_Maker_there #[(.pointer m0)] R h :=
  evFn_sound mixed Tryz.func47 (by kernel_rfl) (tags_Maker_there.eq m0 R h ▸ H)

/-! zugzwang/digest.begun -/
def digest_begun.body  (R : Value → Heap → Prop) (h : Heap) : Prop :=
  newK h (zerosOf Tryz.prog T.digest_state) T.digest_state (fun (v_1 : Option Addr) (h : Heap) =>
  buildK Tryz.prog (Instr.build T.digest_state #[(0, (.int .u32 1779033703)), (1, (.int .u32 3144134277)), (2, (.int .u32 1013904242)), (3, (.int .u32 2773480762)), (4, (.int .u32 1359893119)), (5, (.int .u32 2600822924)), (6, (.int .u32 528734635)), (7, (.int .u32 1541459225))]) (fun (v_2 : Array Value) =>
  storeAggK (sizeOfT Tryz.prog T.digest_state) h v_1 v_2 (fun (h : Heap) =>
  quietK Tryz.prog .agg (Instr.loadAt T.digest_state (.pointer v_1)) (fun (r_3 : Array Value) =>
  R (.agg r_3) h) h)))
def digest_begun.ann : Ann := (.seq .leaf (.seq .leaf .leaf))
theorem digest_begun.eq  (R : Value → Heap → Prop) (h : Heap) : digest_begun.body  R h = evFn Tryz.prog Tryz.f73 digest_begun.ann [] R h := by kernel_rfl
theorem digest_begun.calls  {R : Value → Heap → Prop} {h : Heap} (H : digest_begun.body  R h) : HC Tryz.prog F.digest_begun #[] R h :=
  evFn_sound mixed Tryz.func73 (by kernel_rfl) (digest_begun.eq  R h ▸ H)

/-! zugzwang/digest.New -/
def digest_New.body  (R : Value → Heap → Prop) (h : Heap) : Prop :=
  callK Tryz.prog .agg F.digest_begun #[] (fun (v_1 : Array Value) (h : Heap) =>
  buildK Tryz.prog (Instr.build T.digest_Hasher #[(0, (.agg v_1)), (3, (.bool true))]) (fun (v_2 : Array Value) =>
  newK h v_2 T.digest_Hasher (fun (v_3 : Option Addr) (h : Heap) =>
  R (.pointer v_3) h))) h
def digest_New.ann : Ann := (.seq .leaf (.seq .leaf .leaf))
theorem digest_New.eq  (R : Value → Heap → Prop) (h : Heap) : digest_New.body  R h = evFn Tryz.prog Tryz.f60 digest_New.ann [] R h := by kernel_rfl
theorem digest_New.calls  {R : Value → Heap → Prop} {h : Heap} (H : digest_New.body  R h) : HC Tryz.prog F.digest_New #[] R h :=
  evFn_sound mixed Tryz.func60 (by kernel_rfl) (digest_New.eq  R h ▸ H)

/-! slices.Clone[[]byte,byte] -/
def slices_Clone_byte_byte.body (s0 : Sl) (R : Value → Heap → Prop) (h : Heap) : Prop :=
  if s0.a.isNone = true then
  R (.slice none 0 0) h
  else
  newSlK h 0 #[] T.uint8 (fun (v_1 : Sl) (h : Heap) =>
  opK Tryz.prog .slice (Builtin.append_ #[T.sl_uint8, T.sl_uint8] T.sl_uint8 #[(.slice v_1.a v_1.n v_1.c), (.slice s0.a s0.n s0.c)]) (fun (v_2 : Sl) (h : Heap) =>
  R (.slice v_2.a v_2.n v_2.c) h) h)
def slices_Clone_byte_byte.ann : Ann := (.seq .leaf (.seq (.seq .leaf (.cond (.seq .leaf .leaf) .leaf)) (.seq .leaf .leaf)))
theorem slices_Clone_byte_byte.eq (s0 : Sl) (R : Value → Heap → Prop) (h : Heap) : slices_Clone_byte_byte.body s0 R h = evFn Tryz.prog Tryz.f45 slices_Clone_byte_byte.ann [(.slice s0.a s0.n s0.c)] R h := by kernel_rfl
theorem slices_Clone_byte_byte.calls {s0 : Sl} {R : Value → Heap → Prop} {h : Heap} (H : slices_Clone_byte_byte.body s0 R h) : HC Tryz.prog F.slices_Clone_byte_byte #[(.slice s0.a s0.n s0.c)] R h :=
  evFn_sound mixed Tryz.func45 (by kernel_rfl) (slices_Clone_byte_byte.eq s0 R h ▸ H)

/-! (*zugzwang/bits.row).take -/
def bits_row_take.body (r0 : Option Addr) (R : Value → Heap → Prop) (h : Heap) : Prop :=
  derefK r0 (fun (a_1 : Addr) =>
  fldK ((some a_1)) 0 (fun (a_2 : Addr) =>
  loadK .slice h ((some a_2)) (fun (v_3 : Sl) =>
  idxK v_3 0 (sizeOfT Tryz.prog T.uint8) (fun (a_4 : Addr) =>
  loadK (.int .u8) h ((some a_4)) (fun (v_5 : Int) =>
  shiftK 24
  (derefK r0 (fun (a_6 : Addr) =>
  fldK ((some a_6)) 0 (fun (a_7 : Addr) =>
  loadK .slice h ((some a_7)) (fun (v_8 : Sl) =>
  idxK v_8 1 (sizeOfT Tryz.prog T.uint8) (fun (a_9 : Addr) =>
  loadK (.int .u8) h ((some a_9)) (fun (v_10 : Int) =>
  shiftK 16
  (derefK r0 (fun (a_11 : Addr) =>
  fldK ((some a_11)) 0 (fun (a_12 : Addr) =>
  loadK .slice h ((some a_12)) (fun (v_13 : Sl) =>
  idxK v_13 2 (sizeOfT Tryz.prog T.uint8) (fun (a_14 : Addr) =>
  loadK (.int .u8) h ((some a_14)) (fun (v_15 : Int) =>
  shiftK 8
  (derefK r0 (fun (a_16 : Addr) =>
  fldK ((some a_16)) 0 (fun (a_17 : Addr) =>
  loadK .slice h ((some a_17)) (fun (v_18 : Sl) =>
  idxK v_18 3 (sizeOfT Tryz.prog T.uint8) (fun (a_19 : Addr) =>
  loadK (.int .u8) h ((some a_19)) (fun (v_20 : Int) =>
  derefK r0 (fun (a_21 : Addr) =>
  fldK ((some a_21)) 0 (fun (a_22 : Addr) =>
  loadK .slice h ((some a_22)) (fun (v_23 : Sl) =>
  sliceK v_23 (some 4) none none (sizeOfT Tryz.prog T.uint8) (fun (v_24 : Sl) =>
  derefK r0 (fun (a_25 : Addr) =>
  fldK ((some a_25)) 0 (fun (a_26 : Addr) =>
  storeK h ((some a_26)) (.slice v_24.a v_24.n v_24.c) (fun (h : Heap) =>
  R (.int .u32 (IntKind.u32.wrap (BitVec.ofInt (IntKind.bits .u32) (IntKind.u32.wrap (BitVec.ofInt (IntKind.bits .u32) (IntKind.u32.wrap (BitVec.ofInt (IntKind.bits .u32) (IntKind.u32.wrap ((IntKind.u32.wrap v_5) * 2 ^ min (Int.toNat 24) (IntKind.bits .u32))) ||| BitVec.ofInt (IntKind.bits .u32) (IntKind.u32.wrap ((IntKind.u32.wrap v_10) * 2 ^ min (Int.toNat 16) (IntKind.bits .u32)))).toNat) ||| BitVec.ofInt (IntKind.bits .u32) (IntKind.u32.wrap ((IntKind.u32.wrap v_15) * 2 ^ min (Int.toNat 8) (IntKind.bits .u32)))).toNat) ||| BitVec.ofInt (IntKind.bits .u32) (IntKind.u32.wrap v_20)).toNat)) h))))))))))))))))))))))))))))))
def bits_row_take.ann : Ann := (.seq .leaf (.seq .leaf (.seq .leaf (.seq .leaf .leaf))))
theorem bits_row_take.eq (r0 : Option Addr) (R : Value → Heap → Prop) (h : Heap) : bits_row_take.body r0 R h = evFn Tryz.prog Tryz.f123 bits_row_take.ann [(.pointer r0)] R h := by kernel_rfl
theorem bits_row_take.calls {r0 : Option Addr} {R : Value → Heap → Prop} {h : Heap} (H : bits_row_take.body r0 R h) : HC Tryz.prog F.bits_row_take #[(.pointer r0)] R h :=
  evFn_sound mixed Tryz.func123 (by kernel_rfl) (bits_row_take.eq r0 R h ▸ H)

/-! zugzwang/bits.Words -/
def bits_Words.body (b0 : Sl) (R : Value → Heap → Prop) (h : Heap) : Prop :=
  divK 4
  (if ((Int.tmod ((b0.n : Int)) 4) != 0) = true then
  R (.tuple #[(.slice none 0 0), (.int .i64 4)]) h
  else
  callK Tryz.prog .slice F.slices_Clone_byte_byte #[(.slice b0.a b0.n b0.c)] (fun (v_1 : Sl) (h : Heap) =>
  buildK Tryz.prog (Instr.build T.bits_row #[(0, (.slice v_1.a v_1.n v_1.c))]) (fun (v_2 : Array Value) =>
  buildK Tryz.prog (Instr.build T.bits_reader #[(0, (.agg v_2))]) (fun (v_3 : Array Value) =>
  newK h (zerosOf Tryz.prog T.bits_reader) T.bits_reader (fun (r_4 : Option Addr) (h : Heap) =>
  storeAggK (sizeOfT Tryz.prog T.bits_reader) h r_4 v_3 (fun (h : Heap) =>
  divK 4
  (loopW (fun X_6 (s_5 : Int) (h : Heap) =>
  if (decide (s_5 < (IntKind.i64.wrap (Int.tdiv ((b0.n : Int)) 4)))) = true then
  fldK r_4 1 (fun (a_7 : Addr) =>
  fldK r_4 0 (fun (a_8 : Addr) =>
  loadK .slice h ((some a_7)) (fun (v_9 : Sl) =>
  callK Tryz.prog (.int .u32) F.bits_row_take #[(.pointer ((some a_8)))] (fun (v_10 : Int) (h : Heap) =>
  stillK .slice h ((some a_7)) v_9 ∧
  newSlK h 1 #[(.int .u32 v_10)] T.uint32 (fun (v_11 : Sl) (h : Heap) =>
  opK Tryz.prog .slice (Builtin.append_ #[T.sl_uint32, T.sl_uint32] T.sl_uint32 #[(.slice v_9.a v_9.n v_9.c), (.slice v_11.a v_11.n v_11.c)]) (fun (v_12 : Sl) (h : Heap) =>
  fldK r_4 1 (fun (a_13 : Addr) =>
  storeK h ((some a_13)) (.slice v_12.a v_12.n v_12.c) (fun (h : Heap) =>
  X_6 (IntKind.i64.wrap (s_5 + 1)) h))) h)) h)))
  else
  fldK r_4 1 (fun (a_14 : Addr) =>
  loadK .slice h ((some a_14)) (fun (v_15 : Sl) =>
  R (.tuple #[(.slice v_15.a v_15.n v_15.c), (.int .i64 0)]) h))) 0 h)))))) h)
def bits_Words.ann : Ann := (.seq .leaf (.seq (.seq .leaf (.cond (.seq .leaf .leaf) .leaf)) (.seq .leaf (.seq (.seq .leaf (.block (.loop [(16, (.int .i64))] (.seq .leaf (.seq (.cond .leaf .leaf) (.seq (.block (.any (.loc 0 (.loc 2 (.st 1 224 (.last 3 (.last 4 (.last 5 (.loc 6 (.last 7 .done)))))))))) .leaf)))))) (.seq .leaf .leaf)))))
theorem bits_Words.eq (b0 : Sl) (R : Value → Heap → Prop) (h : Heap) : bits_Words.body b0 R h = evFn Tryz.prog Tryz.f97 bits_Words.ann [(.slice b0.a b0.n b0.c)] R h := by kernel_rfl
theorem bits_Words.calls {b0 : Sl} {R : Value → Heap → Prop} {h : Heap} (H : bits_Words.body b0 R h) : HC Tryz.prog F.bits_Words #[(.slice b0.a b0.n b0.c)] R h :=
  evFn_sound mixed Tryz.func97 (by kernel_rfl) (bits_Words.eq b0 R h ▸ H)

/-! math/bits.RotateLeft32 -/
def math_bits_RotateLeft32.body (x0 : Int) (k1 : Int) (R : Value → Heap → Prop) (h : Heap) : Prop :=
  shiftK (IntKind.u64.wrap (BitVec.ofInt (IntKind.bits .u64) (IntKind.u64.wrap k1) &&& BitVec.ofInt (IntKind.bits .u64) 31).toNat)
  (shiftK (IntKind.u64.wrap (32 - (IntKind.u64.wrap (BitVec.ofInt (IntKind.bits .u64) (IntKind.u64.wrap k1) &&& BitVec.ofInt (IntKind.bits .u64) 31).toNat)))
  (R (.int .u32 (IntKind.u32.wrap (BitVec.ofInt (IntKind.bits .u32) (IntKind.u32.wrap (x0 * 2 ^ min (Int.toNat (IntKind.u64.wrap (BitVec.ofInt (IntKind.bits .u64) (IntKind.u64.wrap k1) &&& BitVec.ofInt (IntKind.bits .u64) 31).toNat)) (IntKind.bits .u32))) ||| BitVec.ofInt (IntKind.bits .u32) (Int.fdiv x0 (2 ^ min (Int.toNat (IntKind.u64.wrap (32 - (IntKind.u64.wrap (BitVec.ofInt (IntKind.bits .u64) (IntKind.u64.wrap k1) &&& BitVec.ofInt (IntKind.bits .u64) 31).toNat)))) (IntKind.bits .u32)))).toNat)) h))
def math_bits_RotateLeft32.ann : Ann := (.seq .leaf (.seq .leaf (.seq .leaf .leaf)))
theorem math_bits_RotateLeft32.eq (x0 : Int) (k1 : Int) (R : Value → Heap → Prop) (h : Heap) : math_bits_RotateLeft32.body x0 k1 R h = evFn Tryz.prog Tryz.f130 math_bits_RotateLeft32.ann [(.int .u32 x0), (.int .i64 k1)] R h := by kernel_rfl
theorem math_bits_RotateLeft32.calls {x0 : Int} {k1 : Int} {R : Value → Heap → Prop} {h : Heap} (H : math_bits_RotateLeft32.body x0 k1 R h) : HC Tryz.prog F.math_bits_RotateLeft32 #[(.int .u32 x0), (.int .i64 k1)] R h :=
  evFn_sound mixed Tryz.func130 (by kernel_rfl) (math_bits_RotateLeft32.eq x0 k1 R h ▸ H)

/-! zugzwang/bits.Turn -/
def bits_Turn.body (x0 : Int) (n1 : Int) (R : Value → Heap → Prop) (h : Heap) : Prop :=
  divK 32
  (callK Tryz.prog (.int .u32) F.math_bits_RotateLeft32 #[(.int .u32 x0), (.int .i64 (IntKind.i64.wrap (0 - (Int.tmod n1 32))))] (fun (v_1 : Int) (h : Heap) =>
  R (.int .u32 v_1) h) h)
def bits_Turn.ann : Ann := (.seq .leaf (.seq .leaf .leaf))
theorem bits_Turn.eq (x0 : Int) (n1 : Int) (R : Value → Heap → Prop) (h : Heap) : bits_Turn.body x0 n1 R h = evFn Tryz.prog Tryz.f124 bits_Turn.ann [(.int .u32 x0), (.int .i64 n1)] R h := by kernel_rfl
theorem bits_Turn.calls {x0 : Int} {n1 : Int} {R : Value → Heap → Prop} {h : Heap} (H : bits_Turn.body x0 n1 R h) : HC Tryz.prog F.bits_Turn #[(.int .u32 x0), (.int .i64 n1)] R h :=
  evFn_sound mixed Tryz.func124 (by kernel_rfl) (bits_Turn.eq x0 n1 R h ▸ H)

/-! zugzwang/bits.Mix -/
def bits_Mix.body (x0 : Int) (turns1 : Sl) (R : Value → Heap → Prop) (h : Heap) : Prop :=
  loopW (fun X_2 (s_1 : Int × Int) (h : Heap) =>
  if (decide (s_1.2 < ((turns1.n : Int)))) = true then
  idxK turns1 s_1.2 (sizeOfT Tryz.prog T.int) (fun (a_3 : Addr) =>
  loadK (.int .i64) h ((some a_3)) (fun (v_4 : Int) =>
  callK Tryz.prog (.int .u32) F.bits_Turn #[(.int .u32 x0), (.int .i64 v_4)] (fun (v_5 : Int) (h : Heap) =>
  X_2 (IntKind.u32.wrap (BitVec.ofInt (IntKind.bits .u32) s_1.1 ^^^ BitVec.ofInt (IntKind.bits .u32) v_5).toNat, IntKind.i64.wrap (s_1.2 + 1)) h) h))
  else
  R (.int .u32 s_1.1) h) (0, 0) h
def bits_Mix.ann : Ann := (.seq .leaf (.seq (.seq .leaf (.block (.loop [(4, (.int .u32)), (9, (.int .i64))] (.seq .leaf (.seq (.cond .leaf .leaf) (.seq (.block (.seq .leaf .leaf)) .leaf)))))) (.seq .leaf .leaf)))
theorem bits_Mix.eq (x0 : Int) (turns1 : Sl) (R : Value → Heap → Prop) (h : Heap) : bits_Mix.body x0 turns1 R h = evFn Tryz.prog Tryz.f98 bits_Mix.ann [(.int .u32 x0), (.slice turns1.a turns1.n turns1.c)] R h := by kernel_rfl
theorem bits_Mix.calls {x0 : Int} {turns1 : Sl} {R : Value → Heap → Prop} {h : Heap} (H : bits_Mix.body x0 turns1 R h) : HC Tryz.prog F.bits_Mix #[(.int .u32 x0), (.slice turns1.a turns1.n turns1.c)] R h :=
  evFn_sound mixed Tryz.func98 (by kernel_rfl) (bits_Mix.eq x0 turns1 R h ▸ H)

/-! zugzwang/bits.Shift -/
def bits_Shift.body (x0 : Int) (n1 : Int) (R : Value → Heap → Prop) (h : Heap) : Prop :=
  shiftK (if n1 < 0 then 0 else n1)
  (R (.int .u32 (Int.fdiv x0 (2 ^ min (Int.toNat (if n1 < 0 then 0 else n1)) (IntKind.bits .u32)))) h)
def bits_Shift.ann : Ann := (.seq .leaf (.seq .leaf .leaf))
theorem bits_Shift.eq (x0 : Int) (n1 : Int) (R : Value → Heap → Prop) (h : Heap) : bits_Shift.body x0 n1 R h = evFn Tryz.prog Tryz.f99 bits_Shift.ann [(.int .u32 x0), (.int .i64 n1)] R h := by kernel_rfl
theorem bits_Shift.calls {x0 : Int} {n1 : Int} {R : Value → Heap → Prop} {h : Heap} (H : bits_Shift.body x0 n1 R h) : HC Tryz.prog F.bits_Shift #[(.int .u32 x0), (.int .i64 n1)] R h :=
  evFn_sound mixed Tryz.func99 (by kernel_rfl) (bits_Shift.eq x0 n1 R h ▸ H)

/-! zugzwang/bits.Sum -/
def bits_Sum.body (words0 : Sl) (R : Value → Heap → Prop) (h : Heap) : Prop :=
  loopW (fun X_2 (s_1 : Int × Int) (h : Heap) =>
  if (decide (s_1.2 < ((words0.n : Int)))) = true then
  idxK words0 s_1.2 (sizeOfT Tryz.prog T.uint32) (fun (a_3 : Addr) =>
  loadK (.int .u32) h ((some a_3)) (fun (v_4 : Int) =>
  X_2 (IntKind.u32.wrap (s_1.1 + v_4), IntKind.i64.wrap (s_1.2 + 1)) h))
  else
  R (.int .u32 s_1.1) h) (0, 0) h
def bits_Sum.ann : Ann := (.seq .leaf (.seq (.seq .leaf (.block (.loop [(2, (.int .u32)), (7, (.int .i64))] (.seq .leaf (.seq (.cond .leaf .leaf) (.seq (.block (.seq .leaf .leaf)) .leaf)))))) (.seq .leaf .leaf)))
theorem bits_Sum.eq (words0 : Sl) (R : Value → Heap → Prop) (h : Heap) : bits_Sum.body words0 R h = evFn Tryz.prog Tryz.f100 bits_Sum.ann [(.slice words0.a words0.n words0.c)] R h := by kernel_rfl
theorem bits_Sum.calls {words0 : Sl} {R : Value → Heap → Prop} {h : Heap} (H : bits_Sum.body words0 R h) : HC Tryz.prog F.bits_Sum #[(.slice words0.a words0.n words0.c)] R h :=
  evFn_sound mixed Tryz.func100 (by kernel_rfl) (bits_Sum.eq words0 R h ▸ H)

/-! zugzwang/digest.constants -/
def digest_constants.body  (R : Value → Heap → Prop) (h : Heap) : Prop :=
  newK h (zerosOf Tryz.prog T.a64_uint32) T.a64_uint32 (fun (v_1 : Option Addr) (h : Heap) =>
  buildK Tryz.prog (Instr.build T.a64_uint32 #[(0, (.int .u32 1116352408)), (1, (.int .u32 1899447441)), (2, (.int .u32 3049323471)), (3, (.int .u32 3921009573)), (4, (.int .u32 961987163)), (5, (.int .u32 1508970993)), (6, (.int .u32 2453635748)), (7, (.int .u32 2870763221)), (8, (.int .u32 3624381080)), (9, (.int .u32 310598401)), (10, (.int .u32 607225278)), (11, (.int .u32 1426881987)), (12, (.int .u32 1925078388)), (13, (.int .u32 2162078206)), (14, (.int .u32 2614888103)), (15, (.int .u32 3248222580)), (16, (.int .u32 3835390401)), (17, (.int .u32 4022224774)), (18, (.int .u32 264347078)), (19, (.int .u32 604807628)), (20, (.int .u32 770255983)), (21, (.int .u32 1249150122)), (22, (.int .u32 1555081692)), (23, (.int .u32 1996064986)), (24, (.int .u32 2554220882)), (25, (.int .u32 2821834349)), (26, (.int .u32 2952996808)), (27, (.int .u32 3210313671)), (28, (.int .u32 3336571891)), (29, (.int .u32 3584528711)), (30, (.int .u32 113926993)), (31, (.int .u32 338241895)), (32, (.int .u32 666307205)), (33, (.int .u32 773529912)), (34, (.int .u32 1294757372)), (35, (.int .u32 1396182291)), (36, (.int .u32 1695183700)), (37, (.int .u32 1986661051)), (38, (.int .u32 2177026350)), (39, (.int .u32 2456956037)), (40, (.int .u32 2730485921)), (41, (.int .u32 2820302411)), (42, (.int .u32 3259730800)), (43, (.int .u32 3345764771)), (44, (.int .u32 3516065817)), (45, (.int .u32 3600352804)), (46, (.int .u32 4094571909)), (47, (.int .u32 275423344)), (48, (.int .u32 430227734)), (49, (.int .u32 506948616)), (50, (.int .u32 659060556)), (51, (.int .u32 883997877)), (52, (.int .u32 958139571)), (53, (.int .u32 1322822218)), (54, (.int .u32 1537002063)), (55, (.int .u32 1747873779)), (56, (.int .u32 1955562222)), (57, (.int .u32 2024104815)), (58, (.int .u32 2227730452)), (59, (.int .u32 2361852424)), (60, (.int .u32 2428436474)), (61, (.int .u32 2756734187)), (62, (.int .u32 3204031479)), (63, (.int .u32 3329325298))]) (fun (v_2 : Array Value) =>
  storeAggK (sizeOfT Tryz.prog T.a64_uint32) h v_1 v_2 (fun (h : Heap) =>
  quietK Tryz.prog .agg (Instr.loadAt T.a64_uint32 (.pointer v_1)) (fun (r_3 : Array Value) =>
  R (.agg r_3) h) h)))
def digest_constants.ann : Ann := (.seq .leaf (.seq .leaf .leaf))
theorem digest_constants.eq  (R : Value → Heap → Prop) (h : Heap) : digest_constants.body  R h = evFn Tryz.prog Tryz.f101 digest_constants.ann [] R h := by kernel_rfl
theorem digest_constants.calls  {R : Value → Heap → Prop} {h : Heap} (H : digest_constants.body  R h) : HC Tryz.prog F.digest_constants #[] R h :=
  evFn_sound mixed Tryz.func101 (by kernel_rfl) (digest_constants.eq  R h ▸ H)

/-! zugzwang/bits.Choose -/
def bits_Choose.body (x0 : Int) (a1 : Int) (b2 : Int) (R : Value → Heap → Prop) (h : Heap) : Prop :=
  R (.int .u32 (IntKind.u32.wrap (BitVec.ofInt (IntKind.bits .u32) b2 ^^^ BitVec.ofInt (IntKind.bits .u32) (IntKind.u32.wrap (BitVec.ofInt (IntKind.bits .u32) x0 &&& BitVec.ofInt (IntKind.bits .u32) (IntKind.u32.wrap (BitVec.ofInt (IntKind.bits .u32) a1 ^^^ BitVec.ofInt (IntKind.bits .u32) b2).toNat)).toNat)).toNat)) h
def bits_Choose.ann : Ann := (.seq .leaf (.seq .leaf .leaf))
theorem bits_Choose.eq (x0 : Int) (a1 : Int) (b2 : Int) (R : Value → Heap → Prop) (h : Heap) : bits_Choose.body x0 a1 b2 R h = evFn Tryz.prog Tryz.f125 bits_Choose.ann [(.int .u32 x0), (.int .u32 a1), (.int .u32 b2)] R h := by kernel_rfl
theorem bits_Choose.calls {x0 : Int} {a1 : Int} {b2 : Int} {R : Value → Heap → Prop} {h : Heap} (H : bits_Choose.body x0 a1 b2 R h) : HC Tryz.prog F.bits_Choose #[(.int .u32 x0), (.int .u32 a1), (.int .u32 b2)] R h :=
  evFn_sound mixed Tryz.func125 (by kernel_rfl) (bits_Choose.eq x0 a1 b2 R h ▸ H)

/-! (*zugzwang/digest.state).step -/
def digest_state_step.body (s0 : Option Addr) (w1 : Int) (k2 : Int) (R : Value → Heap → Prop) (h : Heap) : Prop :=
  derefK s0 (fun (a_1 : Addr) =>
  idxArrK ((some a_1)) 8 7 (sizeOfT Tryz.prog T.uint32) (fun (a_2 : Addr) =>
  derefK s0 (fun (a_3 : Addr) =>
  idxArrK ((some a_3)) 8 4 (sizeOfT Tryz.prog T.uint32) (fun (a_4 : Addr) =>
  derefK s0 (fun (a_5 : Addr) =>
  idxArrK ((some a_5)) 8 4 (sizeOfT Tryz.prog T.uint32) (fun (a_6 : Addr) =>
  derefK s0 (fun (a_7 : Addr) =>
  idxArrK ((some a_7)) 8 5 (sizeOfT Tryz.prog T.uint32) (fun (a_8 : Addr) =>
  derefK s0 (fun (a_9 : Addr) =>
  idxArrK ((some a_9)) 8 6 (sizeOfT Tryz.prog T.uint32) (fun (a_10 : Addr) =>
  loadK (.int .u32) h ((some a_2)) (fun (v_11 : Int) =>
  loadK (.int .u32) h ((some a_4)) (fun (v_12 : Int) =>
  loadK (.int .u32) h ((some a_6)) (fun (v_13 : Int) =>
  loadK (.int .u32) h ((some a_8)) (fun (v_14 : Int) =>
  loadK (.int .u32) h ((some a_10)) (fun (v_15 : Int) =>
  newSlK h 3 #[(.int .i64 6), (.int .i64 11), (.int .i64 25)] T.int (fun (v_16 : Sl) (h : Heap) =>
  callK Tryz.prog (.int .u32) F.bits_Mix #[(.int .u32 v_12), (.slice v_16.a v_16.n v_16.c)] (fun (v_17 : Int) (h : Heap) =>
  stillK (.int .u32) h ((some a_10)) v_15 ∧
  stillK (.int .u32) h ((some a_8)) v_14 ∧
  stillK (.int .u32) h ((some a_6)) v_13 ∧
  stillK (.int .u32) h ((some a_2)) v_11 ∧
  callK Tryz.prog (.int .u32) F.bits_Choose #[(.int .u32 v_13), (.int .u32 v_14), (.int .u32 v_15)] (fun (v_18 : Int) (h : Heap) =>
  stillK (.int .u32) h ((some a_2)) v_11 ∧
  newSlK h 5 #[(.int .u32 v_11), (.int .u32 v_17), (.int .u32 v_18), (.int .u32 k2), (.int .u32 w1)] T.uint32 (fun (v_19 : Sl) (h : Heap) =>
  callK Tryz.prog (.int .u32) F.bits_Sum #[(.slice v_19.a v_19.n v_19.c)] (fun (v_20 : Int) (h : Heap) =>
  derefK s0 (fun (a_21 : Addr) =>
  idxArrK ((some a_21)) 8 0 (sizeOfT Tryz.prog T.uint32) (fun (a_22 : Addr) =>
  derefK s0 (fun (a_23 : Addr) =>
  idxArrK ((some a_23)) 8 0 (sizeOfT Tryz.prog T.uint32) (fun (a_24 : Addr) =>
  derefK s0 (fun (a_25 : Addr) =>
  idxArrK ((some a_25)) 8 1 (sizeOfT Tryz.prog T.uint32) (fun (a_26 : Addr) =>
  derefK s0 (fun (a_27 : Addr) =>
  idxArrK ((some a_27)) 8 0 (sizeOfT Tryz.prog T.uint32) (fun (a_28 : Addr) =>
  derefK s0 (fun (a_29 : Addr) =>
  idxArrK ((some a_29)) 8 2 (sizeOfT Tryz.prog T.uint32) (fun (a_30 : Addr) =>
  derefK s0 (fun (a_31 : Addr) =>
  idxArrK ((some a_31)) 8 1 (sizeOfT Tryz.prog T.uint32) (fun (a_32 : Addr) =>
  derefK s0 (fun (a_33 : Addr) =>
  idxArrK ((some a_33)) 8 2 (sizeOfT Tryz.prog T.uint32) (fun (a_34 : Addr) =>
  loadK (.int .u32) h ((some a_22)) (fun (v_35 : Int) =>
  loadK (.int .u32) h ((some a_24)) (fun (v_36 : Int) =>
  loadK (.int .u32) h ((some a_26)) (fun (v_37 : Int) =>
  loadK (.int .u32) h ((some a_28)) (fun (v_38 : Int) =>
  loadK (.int .u32) h ((some a_30)) (fun (v_39 : Int) =>
  loadK (.int .u32) h ((some a_32)) (fun (v_40 : Int) =>
  loadK (.int .u32) h ((some a_34)) (fun (v_41 : Int) =>
  newSlK h 3 #[(.int .i64 2), (.int .i64 13), (.int .i64 22)] T.int (fun (v_42 : Sl) (h : Heap) =>
  callK Tryz.prog (.int .u32) F.bits_Mix #[(.int .u32 v_35), (.slice v_42.a v_42.n v_42.c)] (fun (v_43 : Int) (h : Heap) =>
  stillK (.int .u32) h ((some a_34)) v_41 ∧
  stillK (.int .u32) h ((some a_32)) v_40 ∧
  stillK (.int .u32) h ((some a_30)) v_39 ∧
  stillK (.int .u32) h ((some a_28)) v_38 ∧
  stillK (.int .u32) h ((some a_26)) v_37 ∧
  stillK (.int .u32) h ((some a_24)) v_36 ∧
  newSlK h 2 #[(.int .u32 v_43), (.int .u32 (IntKind.u32.wrap (BitVec.ofInt (IntKind.bits .u32) (IntKind.u32.wrap (BitVec.ofInt (IntKind.bits .u32) (IntKind.u32.wrap (BitVec.ofInt (IntKind.bits .u32) v_36 &&& BitVec.ofInt (IntKind.bits .u32) v_37).toNat) ||| BitVec.ofInt (IntKind.bits .u32) (IntKind.u32.wrap (BitVec.ofInt (IntKind.bits .u32) v_38 &&& BitVec.ofInt (IntKind.bits .u32) v_39).toNat)).toNat) ||| BitVec.ofInt (IntKind.bits .u32) (IntKind.u32.wrap (BitVec.ofInt (IntKind.bits .u32) v_40 &&& BitVec.ofInt (IntKind.bits .u32) v_41).toNat)).toNat))] T.uint32 (fun (v_44 : Sl) (h : Heap) =>
  callK Tryz.prog (.int .u32) F.bits_Sum #[(.slice v_44.a v_44.n v_44.c)] (fun (v_45 : Int) (h : Heap) =>
  derefK s0 (fun (a_46 : Addr) =>
  sliceArrK ((some a_46)) 8 (some 1) none none (sizeOfT Tryz.prog T.uint32) (fun (v_47 : Sl) =>
  derefK s0 (fun (a_48 : Addr) =>
  sliceArrK ((some a_48)) 8 none (some 7) none (sizeOfT Tryz.prog T.uint32) (fun (v_49 : Sl) =>
  opK Tryz.prog (.int .i64) (Builtin.copy_ #[T.sl_uint32, T.sl_uint32] T.int #[(.slice v_47.a v_47.n v_47.c), (.slice v_49.a v_49.n v_49.c)]) (fun (v_50 : Int) (h : Heap) =>
  derefK s0 (fun (a_51 : Addr) =>
  idxArrK ((some a_51)) 8 4 (sizeOfT Tryz.prog T.uint32) (fun (a_52 : Addr) =>
  derefK s0 (fun (a_53 : Addr) =>
  loadK (.int .u32) h ((some a_52)) (fun (v_54 : Int) =>
  idxArrK ((some a_53)) 8 4 (sizeOfT Tryz.prog T.uint32) (fun (a_55 : Addr) =>
  storeK h ((some a_55)) (.int .u32 (IntKind.u32.wrap (v_54 + v_20))) (fun (h : Heap) =>
  derefK s0 (fun (a_56 : Addr) =>
  idxArrK ((some a_56)) 8 0 (sizeOfT Tryz.prog T.uint32) (fun (a_57 : Addr) =>
  storeK h ((some a_57)) (.int .u32 (IntKind.u32.wrap (v_20 + v_45))) (fun (h : Heap) =>
  R (.tuple #[]) h)))))))))) h))))) h)) h))))))))))))))))))))))) h)) h) h))))))))))))))))
def digest_state_step.ann : Ann := (.seq (.any (.loc 0 (.loc 1 (.loc 2 (.loc 4 (.loc 5 (.loc 6 (.loc 10 (.loc 11 (.loc 12 (.loc 14 (.loc 15 (.loc 16 (.loc 18 (.loc 19 (.loc 20 (.loc 23 (.loc 24 (.st 3 234881024 (.st 7 239075840 (.st 13 239075328 (.st 17 239075328 (.st 21 239075328 (.last 8 (.last 9 (.last 22 (.last 25 (.last 26 (.loc 27 .done))))))))))))))))))))))))))))) (.seq (.any (.loc 0 (.loc 1 (.loc 2 (.loc 6 (.loc 7 (.loc 8 (.loc 10 (.loc 11 (.loc 12 (.loc 15 (.loc 16 (.loc 17 (.loc 19 (.loc 20 (.loc 21 (.loc 25 (.loc 26 (.loc 27 (.loc 29 (.loc 30 (.loc 31 (.st 3 240518168608 (.st 9 257714831360 (.st 13 257714831360 (.loc 14 (.st 18 257723203584 (.st 22 257723203584 (.loc 23 (.loc 24 (.st 28 266287972352 (.st 32 266287972352 (.loc 33 (.loc 34 (.last 4 (.last 5 (.last 35 (.last 36 (.loc 37 .done))))))))))))))))))))))))))))))))))))))) (.seq (.any (.loc 0 (.loc 1 (.loc 2 (.loc 3 (.loc 4 (.loc 5 (.last 6 .done)))))))) (.seq (.any (.loc 0 (.loc 1 (.loc 2 (.loc 4 (.loc 6 (.st 3 416 (.loc 5 (.loc 7 (.last 8 .done)))))))))) .leaf))))
theorem digest_state_step.eq (s0 : Option Addr) (w1 : Int) (k2 : Int) (R : Value → Heap → Prop) (h : Heap) : digest_state_step.body s0 w1 k2 R h = evFn Tryz.prog Tryz.f102 digest_state_step.ann [(.pointer s0), (.int .u32 w1), (.int .u32 k2)] R h := by kernel_rfl
theorem digest_state_step.calls {s0 : Option Addr} {w1 : Int} {k2 : Int} {R : Value → Heap → Prop} {h : Heap} (H : digest_state_step.body s0 w1 k2 R h) : HC Tryz.prog F.digest_state_step #[(.pointer s0), (.int .u32 w1), (.int .u32 k2)] R h :=
  evFn_sound mixed Tryz.func102 (by kernel_rfl) (digest_state_step.eq s0 w1 k2 R h ▸ H)

/-! (*zugzwang/digest.state).take -/
def digest_state_take.body (s0 : Option Addr) (b1 : Sl) (R : Value → Heap → Prop) (h : Heap) : Prop :=
  newK h (zerosOf Tryz.prog T.a64_uint32) T.a64_uint32 (fun (w_1 : Option Addr) (h : Heap) =>
  callK Tryz.prog (Kd.pair .slice (.int .i64)) F.bits_Words #[(.slice b1.a b1.n b1.c)] (fun (v_2 : Sl × Int) (h : Heap) =>
  sliceArrK w_1 64 none none none (sizeOfT Tryz.prog T.uint32) (fun (v_3 : Sl) =>
  opK Tryz.prog (.int .i64) (Builtin.copy_ #[T.sl_uint32, T.sl_uint32] T.int #[(.slice v_3.a v_3.n v_3.c), (.slice v_2.1.a v_2.1.n v_2.1.c)]) (fun (v_4 : Int) (h : Heap) =>
  loopW (fun X_6 (s_5 : Int) (h : Heap) =>
  if (decide (s_5 < 64)) = true then
  idxArrK w_1 64 (IntKind.i64.wrap (s_5 - 15)) (sizeOfT Tryz.prog T.uint32) (fun (a_7 : Addr) =>
  idxArrK w_1 64 (IntKind.i64.wrap (s_5 - 15)) (sizeOfT Tryz.prog T.uint32) (fun (a_8 : Addr) =>
  loadK (.int .u32) h ((some a_7)) (fun (v_9 : Int) =>
  loadK (.int .u32) h ((some a_8)) (fun (v_10 : Int) =>
  newSlK h 2 #[(.int .i64 7), (.int .i64 18)] T.int (fun (v_11 : Sl) (h : Heap) =>
  callK Tryz.prog (.int .u32) F.bits_Mix #[(.int .u32 v_9), (.slice v_11.a v_11.n v_11.c)] (fun (v_12 : Int) (h : Heap) =>
  stillK (.int .u32) h ((some a_8)) v_10 ∧
  callK Tryz.prog (.int .u32) F.bits_Shift #[(.int .u32 v_10), (.int .i64 3)] (fun (v_13 : Int) (h : Heap) =>
  idxArrK w_1 64 (IntKind.i64.wrap (s_5 - 2)) (sizeOfT Tryz.prog T.uint32) (fun (a_14 : Addr) =>
  idxArrK w_1 64 (IntKind.i64.wrap (s_5 - 2)) (sizeOfT Tryz.prog T.uint32) (fun (a_15 : Addr) =>
  loadK (.int .u32) h ((some a_14)) (fun (v_16 : Int) =>
  loadK (.int .u32) h ((some a_15)) (fun (v_17 : Int) =>
  newSlK h 2 #[(.int .i64 17), (.int .i64 19)] T.int (fun (v_18 : Sl) (h : Heap) =>
  callK Tryz.prog (.int .u32) F.bits_Mix #[(.int .u32 v_16), (.slice v_18.a v_18.n v_18.c)] (fun (v_19 : Int) (h : Heap) =>
  stillK (.int .u32) h ((some a_15)) v_17 ∧
  callK Tryz.prog (.int .u32) F.bits_Shift #[(.int .u32 v_17), (.int .i64 10)] (fun (v_20 : Int) (h : Heap) =>
  idxArrK w_1 64 (IntKind.i64.wrap (s_5 - 16)) (sizeOfT Tryz.prog T.uint32) (fun (a_21 : Addr) =>
  idxArrK w_1 64 (IntKind.i64.wrap (s_5 - 7)) (sizeOfT Tryz.prog T.uint32) (fun (a_22 : Addr) =>
  loadK (.int .u32) h ((some a_21)) (fun (v_23 : Int) =>
  loadK (.int .u32) h ((some a_22)) (fun (v_24 : Int) =>
  newSlK h 4 #[(.int .u32 v_23), (.int .u32 (IntKind.u32.wrap (BitVec.ofInt (IntKind.bits .u32) v_12 ^^^ BitVec.ofInt (IntKind.bits .u32) v_13).toNat)), (.int .u32 v_24), (.int .u32 (IntKind.u32.wrap (BitVec.ofInt (IntKind.bits .u32) v_19 ^^^ BitVec.ofInt (IntKind.bits .u32) v_20).toNat))] T.uint32 (fun (v_25 : Sl) (h : Heap) =>
  callK Tryz.prog (.int .u32) F.bits_Sum #[(.slice v_25.a v_25.n v_25.c)] (fun (v_26 : Int) (h : Heap) =>
  idxArrK w_1 64 s_5 (sizeOfT Tryz.prog T.uint32) (fun (a_27 : Addr) =>
  storeK h ((some a_27)) (.int .u32 v_26) (fun (h : Heap) =>
  X_6 (IntKind.i64.wrap (s_5 + 1)) h))) h)))))) h) h)))))) h) h)))))
  else
  derefK s0 (fun (a_28 : Addr) =>
  loadAggK (sizeOfT Tryz.prog T.digest_state) h ((some a_28)) (fun (v_29 : Array Value) =>
  newK h (zerosOf Tryz.prog T.digest_state) T.digest_state (fun (was_30 : Option Addr) (h : Heap) =>
  storeAggK (sizeOfT Tryz.prog T.digest_state) h was_30 v_29 (fun (h : Heap) =>
  callK Tryz.prog .agg F.digest_constants #[] (fun (v_31 : Array Value) (h : Heap) =>
  loopW (fun X_33 (s_32 : Int) (h : Heap) =>
  if (decide (s_32 < 64)) = true then
  idxValK (.int .u32) v_31 64 s_32 (sizeOfT Tryz.prog T.uint32) (fun (v_34 : Int) =>
  idxArrK w_1 64 s_32 (sizeOfT Tryz.prog T.uint32) (fun (a_35 : Addr) =>
  loadK (.int .u32) h ((some a_35)) (fun (v_36 : Int) =>
  callK Tryz.prog .unit F.digest_state_step #[(.pointer s0), (.int .u32 v_36), (.int .u32 v_34)] (fun (v_37 : Unit) (h : Heap) =>
  X_33 (IntKind.i64.wrap (s_32 + 1)) h) h)))
  else
  loopW (fun X_39 (s_38 : Int) (h : Heap) =>
  if (decide (s_38 < 8)) = true then
  derefK s0 (fun (a_40 : Addr) =>
  idxArrK ((some a_40)) 8 s_38 (sizeOfT Tryz.prog T.uint32) (fun (a_41 : Addr) =>
  idxArrK was_30 8 s_38 (sizeOfT Tryz.prog T.uint32) (fun (a_42 : Addr) =>
  derefK s0 (fun (a_43 : Addr) =>
  loadK (.int .u32) h ((some a_41)) (fun (v_44 : Int) =>
  loadK (.int .u32) h ((some a_42)) (fun (v_45 : Int) =>
  idxArrK ((some a_43)) 8 s_38 (sizeOfT Tryz.prog T.uint32) (fun (a_46 : Addr) =>
  storeK h ((some a_46)) (.int .u32 (IntKind.u32.wrap (v_44 + v_45))) (fun (h : Heap) =>
  X_39 (IntKind.i64.wrap (s_38 + 1)) h))))))))
  else
  R (.tuple #[]) h) 0 h) 0 h) h))))) 16 h) h)) h)
def digest_state_take.ann : Ann := (.seq .leaf (.seq .leaf (.seq .leaf (.seq (.seq .leaf (.block (.loop [(7, (.int .i64))] (.seq (.seq .leaf (.cond .leaf .leaf)) (.seq (.block (.seq (.any (.loc 0 (.loc 1 (.loc 2 (.loc 6 (.loc 7 (.loc 8 (.st 3 7200 (.st 9 7168 (.last 4 (.last 5 (.last 10 (.loc 11 (.loc 12 .done)))))))))))))) (.seq (.any (.loc 0 (.loc 1 (.loc 2 (.loc 6 (.loc 7 (.loc 8 (.st 3 7200 (.st 9 7168 (.last 4 (.last 5 (.last 10 (.loc 11 (.loc 12 .done)))))))))))))) (.any (.loc 0 (.loc 1 (.loc 2 (.loc 3 (.loc 5 (.loc 6 (.loc 7 (.loc 8 (.loc 10 (.st 4 30720 (.st 9 30720 (.last 11 (.last 12 (.loc 13 (.last 14 .done))))))))))))))))))) .leaf))))) (.seq .leaf (.seq (.seq .leaf (.block (.loop [(68, (.int .i64))] (.seq .leaf (.seq (.cond .leaf .leaf) (.seq (.block (.seq .leaf .leaf)) .leaf)))))) (.seq .leaf (.block (.loop [(79, (.int .i64))] (.seq .leaf (.seq (.cond .leaf .leaf) (.seq (.block (.seq .leaf (.any (.loc 0 (.loc 1 (.loc 2 (.loc 3 (.loc 5 (.loc 6 (.loc 9 (.st 4 3328 (.st 7 3328 (.loc 8 (.loc 10 (.last 11 .done))))))))))))))) .leaf))))))))))))
theorem digest_state_take.eq (s0 : Option Addr) (b1 : Sl) (R : Value → Heap → Prop) (h : Heap) : digest_state_take.body s0 b1 R h = evFn Tryz.prog Tryz.f74 digest_state_take.ann [(.pointer s0), (.slice b1.a b1.n b1.c)] R h := by kernel_rfl
theorem digest_state_take.calls {s0 : Option Addr} {b1 : Sl} {R : Value → Heap → Prop} {h : Heap} (H : digest_state_take.body s0 b1 R h) : HC Tryz.prog F.digest_state_take #[(.pointer s0), (.slice b1.a b1.n b1.c)] R h :=
  evFn_sound mixed Tryz.func74 (by kernel_rfl) (digest_state_take.eq s0 b1 R h ▸ H)

/-! (*zugzwang/digest.Hasher).all -/
def digest_Hasher_all.body (h0 : Option Addr) (rows1 : Sl) (R : Value → Heap → Prop) (h : Heap) : Prop :=
  loopW (fun X_2 (s_1 : Int) (h : Heap) =>
  if (decide (s_1 < ((rows1.n : Int)))) = true then
  idxK rows1 s_1 (sizeOfT Tryz.prog T.sl_uint8) (fun (a_3 : Addr) =>
  loadK .slice h ((some a_3)) (fun (v_4 : Sl) =>
  derefK h0 (fun (a_5 : Addr) =>
  fldK ((some a_5)) 9 (fun (a_6 : Addr) =>
  loadK (.int .i64) h ((some a_6)) (fun (v_7 : Int) =>
  derefK h0 (fun (a_8 : Addr) =>
  fldK ((some a_8)) 9 (fun (a_9 : Addr) =>
  storeK h ((some a_9)) (.int .i64 (IntKind.i64.wrap (v_7 + ((v_4.n : Int))))) (fun (h : Heap) =>
  derefK h0 (fun (a_10 : Addr) =>
  fldK ((some a_10)) 8 (fun (a_11 : Addr) =>
  loadK .slice h ((some a_11)) (fun (v_12 : Sl) =>
  opK Tryz.prog .slice (Builtin.append_ #[T.sl_uint8, T.sl_uint8] T.sl_uint8 #[(.slice v_12.a v_12.n v_12.c), (.slice v_4.a v_4.n v_4.c)]) (fun (v_13 : Sl) (h : Heap) =>
  derefK h0 (fun (a_14 : Addr) =>
  fldK ((some a_14)) 8 (fun (a_15 : Addr) =>
  storeK h ((some a_15)) (.slice v_13.a v_13.n v_13.c) (fun (h : Heap) =>
  loopW (fun X_17 (s_16 : Unit) (h : Heap) =>
  derefK h0 (fun (a_18 : Addr) =>
  fldK ((some a_18)) 8 (fun (a_19 : Addr) =>
  loadK .slice h ((some a_19)) (fun (v_20 : Sl) =>
  if (decide (((v_20.n : Int)) ≥ 64)) = true then
  derefK h0 (fun (a_21 : Addr) =>
  fldK ((some a_21)) 0 (fun (a_22 : Addr) =>
  derefK h0 (fun (a_23 : Addr) =>
  fldK ((some a_23)) 8 (fun (a_24 : Addr) =>
  loadK .slice h ((some a_24)) (fun (v_25 : Sl) =>
  sliceK v_25 none (some 64) none (sizeOfT Tryz.prog T.uint8) (fun (v_26 : Sl) =>
  callK Tryz.prog .unit F.digest_state_take #[(.pointer ((some a_22))), (.slice v_26.a v_26.n v_26.c)] (fun (v_27 : Unit) (h : Heap) =>
  derefK h0 (fun (a_28 : Addr) =>
  fldK ((some a_28)) 8 (fun (a_29 : Addr) =>
  loadK .slice h ((some a_29)) (fun (v_30 : Sl) =>
  sliceK v_30 (some 64) none none (sizeOfT Tryz.prog T.uint8) (fun (v_31 : Sl) =>
  derefK h0 (fun (a_32 : Addr) =>
  fldK ((some a_32)) 8 (fun (a_33 : Addr) =>
  storeK h ((some a_33)) (.slice v_31.a v_31.n v_31.c) (fun (h : Heap) =>
  X_17 () h)))))))) h))))))
  else
  X_2 (IntKind.i64.wrap (s_1 + 1)) h)))) () h)))) h)))))))))))
  else
  derefK h0 (fun (a_34 : Addr) =>
  fldK ((some a_34)) 8 (fun (a_35 : Addr) =>
  loadK .slice h ((some a_35)) (fun (v_36 : Sl) =>
  callK Tryz.prog .slice F.slices_Clone_byte_byte #[(.slice v_36.a v_36.n v_36.c)] (fun (v_37 : Sl) (h : Heap) =>
  derefK h0 (fun (a_38 : Addr) =>
  fldK ((some a_38)) 8 (fun (a_39 : Addr) =>
  storeK h ((some a_39)) (.slice v_37.a v_37.n v_37.c) (fun (h : Heap) =>
  R (.tuple #[]) h)))) h)))) 0 h
def digest_Hasher_all.ann : Ann := (.seq (.seq .leaf (.block (.loop [(8, (.int .i64))] (.seq .leaf (.seq (.cond .leaf .leaf) (.seq (.block (.seq .leaf (.seq .leaf (.seq .leaf (.block (.loop [] (.seq (.seq .leaf (.cond .leaf .leaf)) (.block (.seq (.any (.loc 0 (.loc 1 (.loc 2 (.loc 3 (.loc 4 (.loc 5 (.st 6 384 (.loc 7 (.last 8 .done)))))))))) .leaf))))))))) .leaf)))))) .leaf)
theorem digest_Hasher_all.eq (h0 : Option Addr) (rows1 : Sl) (R : Value → Heap → Prop) (h : Heap) : digest_Hasher_all.body h0 rows1 R h = evFn Tryz.prog Tryz.f61 digest_Hasher_all.ann [(.pointer h0), (.slice rows1.a rows1.n rows1.c)] R h := by kernel_rfl
theorem digest_Hasher_all.calls {h0 : Option Addr} {rows1 : Sl} {R : Value → Heap → Prop} {h : Heap} (H : digest_Hasher_all.body h0 rows1 R h) : HC Tryz.prog F.digest_Hasher_all #[(.pointer h0), (.slice rows1.a rows1.n rows1.c)] R h :=
  evFn_sound mixed Tryz.func61 (by kernel_rfl) (digest_Hasher_all.eq h0 rows1 R h ▸ H)

/-! (*zugzwang/bits.row).put -/
def bits_row_put.body (r0 : Option Addr) (w1 : Int) (R : Value → Heap → Prop) (h : Heap) : Prop :=
  derefK r0 (fun (a_1 : Addr) =>
  fldK ((some a_1)) 0 (fun (a_2 : Addr) =>
  loadK .slice h ((some a_2)) (fun (v_3 : Sl) =>
  shiftK 24
  (shiftK 16
  (shiftK 8
  (newSlK h 4 #[(.int .u8 (IntKind.u8.wrap (Int.fdiv w1 (2 ^ min (Int.toNat 24) (IntKind.bits .u32))))), (.int .u8 (IntKind.u8.wrap (Int.fdiv w1 (2 ^ min (Int.toNat 16) (IntKind.bits .u32))))), (.int .u8 (IntKind.u8.wrap (Int.fdiv w1 (2 ^ min (Int.toNat 8) (IntKind.bits .u32))))), (.int .u8 (IntKind.u8.wrap w1))] T.uint8 (fun (v_4 : Sl) (h : Heap) =>
  opK Tryz.prog .slice (Builtin.append_ #[T.sl_uint8, T.sl_uint8] T.sl_uint8 #[(.slice v_3.a v_3.n v_3.c), (.slice v_4.a v_4.n v_4.c)]) (fun (v_5 : Sl) (h : Heap) =>
  derefK r0 (fun (a_6 : Addr) =>
  fldK ((some a_6)) 0 (fun (a_7 : Addr) =>
  storeK h ((some a_7)) (.slice v_5.a v_5.n v_5.c) (fun (h : Heap) =>
  R (.tuple #[]) h)))) h)))))))
def bits_row_put.ann : Ann := .leaf
theorem bits_row_put.eq (r0 : Option Addr) (w1 : Int) (R : Value → Heap → Prop) (h : Heap) : bits_row_put.body r0 w1 R h = evFn Tryz.prog Tryz.f103 bits_row_put.ann [(.pointer r0), (.int .u32 w1)] R h := by kernel_rfl
theorem bits_row_put.calls {r0 : Option Addr} {w1 : Int} {R : Value → Heap → Prop} {h : Heap} (H : bits_row_put.body r0 w1 R h) : HC Tryz.prog F.bits_row_put #[(.pointer r0), (.int .u32 w1)] R h :=
  evFn_sound mixed Tryz.func103 (by kernel_rfl) (bits_row_put.eq r0 w1 R h ▸ H)

/-! zugzwang/bits.Bytes -/
def bits_Bytes.body (words0 : Sl) (R : Value → Heap → Prop) (h : Heap) : Prop :=
  newK h (zerosOf Tryz.prog T.bits_reader) T.bits_reader (fun (r_1 : Option Addr) (h : Heap) =>
  loopW (fun X_3 (s_2 : Int) (h : Heap) =>
  if (decide (s_2 < ((words0.n : Int)))) = true then
  idxK words0 s_2 (sizeOfT Tryz.prog T.uint32) (fun (a_4 : Addr) =>
  loadK (.int .u32) h ((some a_4)) (fun (v_5 : Int) =>
  fldK r_1 0 (fun (a_6 : Addr) =>
  callK Tryz.prog .unit F.bits_row_put #[(.pointer ((some a_6))), (.int .u32 v_5)] (fun (v_7 : Unit) (h : Heap) =>
  X_3 (IntKind.i64.wrap (s_2 + 1)) h) h)))
  else
  fldK r_1 0 (fun (a_8 : Addr) =>
  fldK ((some a_8)) 0 (fun (a_9 : Addr) =>
  loadK .slice h ((some a_9)) (fun (v_10 : Sl) =>
  R (.slice v_10.a v_10.n v_10.c) h)))) 0 h)
def bits_Bytes.ann : Ann := (.seq .leaf (.seq .leaf (.seq (.seq .leaf (.block (.loop [(8, (.int .i64))] (.seq .leaf (.seq (.cond .leaf .leaf) (.seq (.block (.seq .leaf .leaf)) .leaf)))))) (.seq .leaf .leaf))))
theorem bits_Bytes.eq (words0 : Sl) (R : Value → Heap → Prop) (h : Heap) : bits_Bytes.body words0 R h = evFn Tryz.prog Tryz.f76 bits_Bytes.ann [(.slice words0.a words0.n words0.c)] R h := by kernel_rfl
theorem bits_Bytes.calls {words0 : Sl} {R : Value → Heap → Prop} {h : Heap} (H : bits_Bytes.body words0 R h) : HC Tryz.prog F.bits_Bytes #[(.slice words0.a words0.n words0.c)] R h :=
  evFn_sound mixed Tryz.func76 (by kernel_rfl) (bits_Bytes.eq words0 R h ▸ H)

/-! zugzwang/digest.fill -/
def digest_fill.body (n0 : Int) (R : Value → Heap → Prop) (h : Heap) : Prop :=
  divK 64
  (divK 64
  (opK Tryz.prog .slice (Instr.makeSlice T.sl_uint8 (.int .i64 (IntKind.i64.wrap (1 + (Int.tmod (IntKind.i64.wrap (119 - (Int.tmod n0 64))) 64)))) (.int .i64 128)) (fun (v_1 : Sl) (h : Heap) =>
  idxK v_1 0 (sizeOfT Tryz.prog T.uint8) (fun (a_2 : Addr) =>
  storeK h ((some a_2)) (.int .u8 128) (fun (h : Heap) =>
  shiftK 32
  (newSlK h 2 #[(.int .u32 (IntKind.u32.wrap (Int.fdiv (IntKind.u64.wrap (IntKind.i64.wrap (8 * n0))) (2 ^ min (Int.toNat 32) (IntKind.bits .u64))))), (.int .u32 (IntKind.u32.wrap (IntKind.u64.wrap (IntKind.i64.wrap (8 * n0)))))] T.uint32 (fun (v_3 : Sl) (h : Heap) =>
  callK Tryz.prog .slice F.bits_Bytes #[(.slice v_3.a v_3.n v_3.c)] (fun (v_4 : Sl) (h : Heap) =>
  opK Tryz.prog .slice (Builtin.append_ #[T.sl_uint8, T.sl_uint8] T.sl_uint8 #[(.slice v_1.a v_1.n v_1.c), (.slice v_4.a v_4.n v_4.c)]) (fun (v_5 : Sl) (h : Heap) =>
  R (.slice v_5.a v_5.n v_5.c) h) h) h))))) h))
def digest_fill.ann : Ann := (.seq .leaf (.seq .leaf (.seq .leaf (.seq .leaf (.seq .leaf .leaf)))))
theorem digest_fill.eq (n0 : Int) (R : Value → Heap → Prop) (h : Heap) : digest_fill.body n0 R h = evFn Tryz.prog Tryz.f75 digest_fill.ann [(.int .i64 n0)] R h := by kernel_rfl
theorem digest_fill.calls {n0 : Int} {R : Value → Heap → Prop} {h : Heap} (H : digest_fill.body n0 R h) : HC Tryz.prog F.digest_fill #[(.int .i64 n0)] R h :=
  evFn_sound mixed Tryz.func75 (by kernel_rfl) (digest_fill.eq n0 R h ▸ H)

/-! (*zugzwang/digest.Hasher).ended -/
def digest_Hasher_ended.body (h0 : Option Addr) (R : Value → Heap → Prop) (h : Heap) : Prop :=
  newK h (zerosOf Tryz.prog T.api_Tag) T.api_Tag (fun (t_1 : Option Addr) (h : Heap) =>
  derefK h0 (fun (a_2 : Addr) =>
  fldK ((some a_2)) 9 (fun (a_3 : Addr) =>
  loadK (.int .i64) h ((some a_3)) (fun (v_4 : Int) =>
  callK Tryz.prog .slice F.digest_fill #[(.int .i64 v_4)] (fun (v_5 : Sl) (h : Heap) =>
  newSlK h 1 #[(.slice v_5.a v_5.n v_5.c)] T.sl_uint8 (fun (v_6 : Sl) (h : Heap) =>
  callK Tryz.prog .unit F.digest_Hasher_all #[(.pointer h0), (.slice v_6.a v_6.n v_6.c)] (fun (v_7 : Unit) (h : Heap) =>
  sliceArrK t_1 32 none none none (sizeOfT Tryz.prog T.uint8) (fun (v_8 : Sl) =>
  derefK h0 (fun (a_9 : Addr) =>
  fldK ((some a_9)) 0 (fun (a_10 : Addr) =>
  sliceArrK ((some a_10)) 8 none none none (sizeOfT Tryz.prog T.uint32) (fun (v_11 : Sl) =>
  callK Tryz.prog .slice F.bits_Bytes #[(.slice v_11.a v_11.n v_11.c)] (fun (v_12 : Sl) (h : Heap) =>
  opK Tryz.prog (.int .i64) (Builtin.copy_ #[T.sl_uint8, T.sl_uint8] T.int #[(.slice v_8.a v_8.n v_8.c), (.slice v_12.a v_12.n v_12.c)]) (fun (v_13 : Int) (h : Heap) =>
  loadAggK (sizeOfT Tryz.prog T.api_Tag) h t_1 (fun (v_14 : Array Value) =>
  storeAggK (sizeOfT Tryz.prog T.api_Tag) h t_1 v_14 (fun (h : Heap) =>
  quietK Tryz.prog .agg (Instr.loadAt T.api_Tag (.pointer t_1)) (fun (r_15 : Array Value) =>
  R (.agg r_15) h) h))) h) h))))) h)) h))))
def digest_Hasher_ended.ann : Ann := (.seq .leaf (.seq .leaf (.seq (.any (.loc 0 (.loc 1 (.loc 2 (.loc 3 (.loc 4 (.last 5 (.last 6 .done)))))))) (.seq .leaf .leaf))))
theorem digest_Hasher_ended.eq (h0 : Option Addr) (R : Value → Heap → Prop) (h : Heap) : digest_Hasher_ended.body h0 R h = evFn Tryz.prog Tryz.f62 digest_Hasher_ended.ann [(.pointer h0)] R h := by kernel_rfl
theorem digest_Hasher_ended.calls {h0 : Option Addr} {R : Value → Heap → Prop} {h : Heap} (H : digest_Hasher_ended.body h0 R h) : HC Tryz.prog F.digest_Hasher_ended #[(.pointer h0)] R h :=
  evFn_sound mixed Tryz.func62 (by kernel_rfl) (digest_Hasher_ended.eq h0 R h ▸ H)

/-! zugzwang/digest.Of -/
def digest_Of.body (rows0 : Sl) (R : Value → Heap → Prop) (h : Heap) : Prop :=
  newK h (zerosOf Tryz.prog T.api_Tag) T.api_Tag (fun (v_1 : Option Addr) (h : Heap) =>
  callK Tryz.prog .ptr F.digest_New #[] (fun (v_2 : Option Addr) (h : Heap) =>
  callK Tryz.prog .unit F.digest_Hasher_all #[(.pointer v_2), (.slice rows0.a rows0.n rows0.c)] (fun (v_3 : Unit) (h : Heap) =>
  callK Tryz.prog .agg F.digest_Hasher_ended #[(.pointer v_2)] (fun (v_4 : Array Value) (h : Heap) =>
  storeAggK (sizeOfT Tryz.prog T.api_Tag) h v_1 v_4 (fun (h : Heap) =>
  quietK Tryz.prog .agg (Instr.loadAt T.api_Tag (.pointer v_1)) (fun (r_5 : Array Value) =>
  R (.agg r_5) h) h)) h) h) h)
def digest_Of.ann : Ann := (.seq .leaf (.seq .leaf (.seq .leaf (.seq .leaf .leaf))))
theorem digest_Of.eq (rows0 : Sl) (R : Value → Heap → Prop) (h : Heap) : digest_Of.body rows0 R h = evFn Tryz.prog Tryz.f48 digest_Of.ann [(.slice rows0.a rows0.n rows0.c)] R h := by kernel_rfl
theorem digest_Of.calls {rows0 : Sl} {R : Value → Heap → Prop} {h : Heap} (H : digest_Of.body rows0 R h) : HC Tryz.prog F.digest_Of #[(.slice rows0.a rows0.n rows0.c)] R h :=
  evFn_sound mixed Tryz.func48 (by kernel_rfl) (digest_Of.eq rows0 R h ▸ H)

/-! slices.Grow[[]byte,byte] -/
def slices_Grow_byte_byte.body (s0 : Sl) (n1 : Int) (R : Value → Heap → Prop) (h : Heap) : Prop :=
  if (decide (n1 < 0)) = true then
  opK Tryz.prog .any (Instr.makeInterface T.string (.string ((⟨#[99, 97, 110, 110, 111, 116, 32, 98, 101, 32, 110, 101, 103, 97, 116, 105, 118, 101]⟩ : ByteArray)))) (fun (v_1 : Value) (h : Heap) =>
  False) h
  else
  if (decide ((IntKind.i64.wrap (n1 - (IntKind.i64.wrap (((s0.c : Int)) - ((s0.n : Int)))))) > 0)) = true then
  sliceK s0 none (some ((s0.c : Int))) none (sizeOfT Tryz.prog T.uint8) (fun (v_2 : Sl) =>
  opK Tryz.prog .slice (Builtin.append_ #[T.sl_uint8, T.int] T.sl_uint8 #[(.slice v_2.a v_2.n v_2.c), (.int .i64 (IntKind.i64.wrap (n1 - (IntKind.i64.wrap (((s0.c : Int)) - ((s0.n : Int)))))))]) (fun (v_3 : Sl) (h : Heap) =>
  sliceK v_3 none (some ((s0.n : Int))) none (sizeOfT Tryz.prog T.uint8) (fun (v_4 : Sl) =>
  R (.slice v_4.a v_4.n v_4.c) h)) h)
  else
  R (.slice s0.a s0.n s0.c) h
def slices_Grow_byte_byte.ann : Ann := (.seq .leaf (.seq (.seq .leaf (.cond .leaf .leaf)) (.seq (.seq .leaf (.seq .leaf (.cond .leaf .leaf))) (.seq .leaf .leaf))))
theorem slices_Grow_byte_byte.eq (s0 : Sl) (n1 : Int) (R : Value → Heap → Prop) (h : Heap) : slices_Grow_byte_byte.body s0 n1 R h = evFn Tryz.prog Tryz.f64 slices_Grow_byte_byte.ann [(.slice s0.a s0.n s0.c), (.int .i64 n1)] R h := by kernel_rfl
theorem slices_Grow_byte_byte.calls {s0 : Sl} {n1 : Int} {R : Value → Heap → Prop} {h : Heap} (H : slices_Grow_byte_byte.body s0 n1 R h) : HC Tryz.prog F.slices_Grow_byte_byte #[(.slice s0.a s0.n s0.c), (.int .i64 n1)] R h :=
  evFn_sound mixed Tryz.func64 (by kernel_rfl) (slices_Grow_byte_byte.eq s0 n1 R h ▸ H)

/-! slices.Concat[[]byte,byte] -/
def slices_Concat_byte_byte.body (slices0 : Sl) (R : Value → Heap → Prop) (h : Heap) : Prop :=
  loopW (fun X_2 (s_1 : Int × Int) (h : Heap) =>
  if (decide (s_1.2 < ((slices0.n : Int)))) = true then
  idxK slices0 s_1.2 (sizeOfT Tryz.prog T.sl_uint8) (fun (a_3 : Addr) =>
  loadK .slice h ((some a_3)) (fun (v_4 : Sl) =>
  if (decide ((IntKind.i64.wrap (s_1.1 + ((v_4.n : Int)))) < 0)) = true then
  opK Tryz.prog .any (Instr.makeInterface T.string (.string ((⟨#[108, 101, 110, 32, 111, 117, 116, 32, 111, 102, 32, 114, 97, 110, 103, 101]⟩ : ByteArray)))) (fun (v_5 : Value) (h : Heap) =>
  False) h
  else
  X_2 (IntKind.i64.wrap (s_1.1 + ((v_4.n : Int))), IntKind.i64.wrap (s_1.2 + 1)) h))
  else
  callK Tryz.prog .slice F.slices_Grow_byte_byte #[(.slice none 0 0), (.int .i64 s_1.1)] (fun (v_6 : Sl) (h : Heap) =>
  loopW (fun X_8 (s_7 : Sl × Int) (h : Heap) =>
  if (decide (s_7.2 < ((slices0.n : Int)))) = true then
  idxK slices0 s_7.2 (sizeOfT Tryz.prog T.sl_uint8) (fun (a_9 : Addr) =>
  loadK .slice h ((some a_9)) (fun (v_10 : Sl) =>
  opK Tryz.prog .slice (Builtin.append_ #[T.sl_uint8, T.sl_uint8] T.sl_uint8 #[(.slice s_7.1.a s_7.1.n s_7.1.c), (.slice v_10.a v_10.n v_10.c)]) (fun (v_11 : Sl) (h : Heap) =>
  X_8 (v_11, IntKind.i64.wrap (s_7.2 + 1)) h) h))
  else
  R (.slice s_7.1.a s_7.1.n s_7.1.c) h) (v_6, 0) h) h) (0, 0) h
def slices_Concat_byte_byte.ann : Ann := (.seq .leaf (.seq .leaf (.seq (.seq .leaf (.block (.loop [(3, (.int .i64)), (11, (.int .i64))] (.seq .leaf (.seq (.cond .leaf .leaf) (.seq (.block (.seq .leaf (.seq .leaf (.seq .leaf (.cond .leaf .leaf))))) .leaf)))))) (.seq .leaf (.seq (.seq .leaf (.block (.loop [(6, .slice), (27, (.int .i64))] (.seq .leaf (.seq (.cond .leaf .leaf) (.seq (.block (.seq .leaf .leaf)) .leaf)))))) (.seq .leaf .leaf))))))
theorem slices_Concat_byte_byte.eq (slices0 : Sl) (R : Value → Heap → Prop) (h : Heap) : slices_Concat_byte_byte.body slices0 R h = evFn Tryz.prog Tryz.f50 slices_Concat_byte_byte.ann [(.slice slices0.a slices0.n slices0.c)] R h := by kernel_rfl
theorem slices_Concat_byte_byte.calls {slices0 : Sl} {R : Value → Heap → Prop} {h : Heap} (H : slices_Concat_byte_byte.body slices0 R h) : HC Tryz.prog F.slices_Concat_byte_byte #[(.slice slices0.a slices0.n slices0.c)] R h :=
  evFn_sound mixed Tryz.func50 (by kernel_rfl) (slices_Concat_byte_byte.eq slices0 R h ▸ H)

/-! zugzwang/tags.eight -/
def tags_eight.body (n0 : Int) (R : Value → Heap → Prop) (h : Heap) : Prop :=
  loopW (fun X_2 (s_1 : Sl × Int) (h : Heap) =>
  if (decide (s_1.2 < 8)) = true then
  shiftK (IntKind.i64.wrap (56 - (IntKind.i64.wrap (8 * s_1.2))))
  (newSlK h 1 #[(.int .u8 (IntKind.u8.wrap (Int.fdiv (IntKind.u64.wrap n0) (2 ^ min (Int.toNat (IntKind.i64.wrap (56 - (IntKind.i64.wrap (8 * s_1.2))))) (IntKind.bits .u64)))))] T.uint8 (fun (v_3 : Sl) (h : Heap) =>
  opK Tryz.prog .slice (Builtin.append_ #[T.sl_uint8, T.sl_uint8] T.sl_uint8 #[(.slice s_1.1.a s_1.1.n s_1.1.c), (.slice v_3.a v_3.n v_3.c)]) (fun (v_4 : Sl) (h : Heap) =>
  X_2 (v_4, IntKind.i64.wrap (s_1.2 + 1)) h) h))
  else
  R (.slice s_1.1.a s_1.1.n s_1.1.c) h) (⟨none, 0, 0⟩, 0) h
def tags_eight.ann : Ann := (.seq .leaf (.seq (.seq .leaf (.block (.loop [(2, .slice), (4, (.int .i64))] (.seq .leaf (.seq (.cond .leaf .leaf) (.seq (.block (.seq .leaf .leaf)) .leaf)))))) (.seq .leaf .leaf)))
theorem tags_eight.eq (n0 : Int) (R : Value → Heap → Prop) (h : Heap) : tags_eight.body n0 R h = evFn Tryz.prog Tryz.f77 tags_eight.ann [(.int .i64 n0)] R h := by kernel_rfl
theorem tags_eight.calls {n0 : Int} {R : Value → Heap → Prop} {h : Heap} (H : tags_eight.body n0 R h) : HC Tryz.prog F.tags_eight #[(.int .i64 n0)] R h :=
  evFn_sound mixed Tryz.func77 (by kernel_rfl) (tags_eight.eq n0 R h ▸ H)

/-! zugzwang/tags.number -/
def tags_number.body (n0 : Int) (R : Value → Heap → Prop) (h : Heap) : Prop :=
  newK h (zerosOf Tryz.prog T.api_Tag) T.api_Tag (fun (t_1 : Option Addr) (h : Heap) =>
  sliceArrK t_1 32 none none none (sizeOfT Tryz.prog T.uint8) (fun (v_2 : Sl) =>
  ((newSlK h 8 #[(.int .u8 122), (.int .u8 117), (.int .u8 103), (.int .u8 122), (.int .u8 119), (.int .u8 97), (.int .u8 110), (.int .u8 103)] T.uint8 (fun (v_3 : Sl) (h : Heap) =>
  ((opK Tryz.prog .slice (convert T.sl_uint8 T.sl_uint8 (.slice v_3.a v_3.n v_3.c)) (fun (v_4 : Sl) (h : Heap) =>
  callK Tryz.prog .slice F.tags_eight #[(.int .i64 n0)] (fun (v_5 : Sl) (h : Heap) =>
  newSlK h 2 #[(.slice v_4.a v_4.n v_4.c), (.slice v_5.a v_5.n v_5.c)] T.sl_uint8 (fun (v_6 : Sl) (h : Heap) =>
  callK Tryz.prog .slice F.slices_Concat_byte_byte #[(.slice v_6.a v_6.n v_6.c)] (fun (v_7 : Sl) (h : Heap) =>
  opK Tryz.prog (.int .i64) (Builtin.copy_ #[T.sl_uint8, T.sl_uint8] T.int #[(.slice v_2.a v_2.n v_2.c), (.slice v_7.a v_7.n v_7.c)]) (fun (v_8 : Int) (h : Heap) =>
  loadAggK (sizeOfT Tryz.prog T.api_Tag) h t_1 (fun (v_9 : Array Value) =>
  storeAggK (sizeOfT Tryz.prog T.api_Tag) h t_1 v_9 (fun (h : Heap) =>
  quietK Tryz.prog .agg (Instr.loadAt T.api_Tag (.pointer t_1)) (fun (r_10 : Array Value) =>
  R (.agg r_10) h) h))) h) h)) h) h) ∧
  (callK Tryz.prog .slice F.tags_eight #[(.int .i64 n0)] (fun (v_11 : Sl) (h : Heap) =>
  opK Tryz.prog .slice (convert T.sl_uint8 T.sl_uint8 (.slice v_3.a v_3.n v_3.c)) (fun (v_12 : Sl) (h : Heap) =>
  newSlK h 2 #[(.slice v_12.a v_12.n v_12.c), (.slice v_11.a v_11.n v_11.c)] T.sl_uint8 (fun (v_13 : Sl) (h : Heap) =>
  callK Tryz.prog .slice F.slices_Concat_byte_byte #[(.slice v_13.a v_13.n v_13.c)] (fun (v_14 : Sl) (h : Heap) =>
  opK Tryz.prog (.int .i64) (Builtin.copy_ #[T.sl_uint8, T.sl_uint8] T.int #[(.slice v_2.a v_2.n v_2.c), (.slice v_14.a v_14.n v_14.c)]) (fun (v_15 : Int) (h : Heap) =>
  loadAggK (sizeOfT Tryz.prog T.api_Tag) h t_1 (fun (v_16 : Array Value) =>
  storeAggK (sizeOfT Tryz.prog T.api_Tag) h t_1 v_16 (fun (h : Heap) =>
  quietK Tryz.prog .agg (Instr.loadAt T.api_Tag (.pointer t_1)) (fun (r_17 : Array Value) =>
  R (.agg r_17) h) h))) h) h)) h) h)))) ∧
  (callK Tryz.prog .slice F.tags_eight #[(.int .i64 n0)] (fun (v_18 : Sl) (h : Heap) =>
  newSlK h 8 #[(.int .u8 122), (.int .u8 117), (.int .u8 103), (.int .u8 122), (.int .u8 119), (.int .u8 97), (.int .u8 110), (.int .u8 103)] T.uint8 (fun (v_19 : Sl) (h : Heap) =>
  opK Tryz.prog .slice (convert T.sl_uint8 T.sl_uint8 (.slice v_19.a v_19.n v_19.c)) (fun (v_20 : Sl) (h : Heap) =>
  newSlK h 2 #[(.slice v_20.a v_20.n v_20.c), (.slice v_18.a v_18.n v_18.c)] T.sl_uint8 (fun (v_21 : Sl) (h : Heap) =>
  callK Tryz.prog .slice F.slices_Concat_byte_byte #[(.slice v_21.a v_21.n v_21.c)] (fun (v_22 : Sl) (h : Heap) =>
  opK Tryz.prog (.int .i64) (Builtin.copy_ #[T.sl_uint8, T.sl_uint8] T.int #[(.slice v_2.a v_2.n v_2.c), (.slice v_22.a v_22.n v_22.c)]) (fun (v_23 : Int) (h : Heap) =>
  loadAggK (sizeOfT Tryz.prog T.api_Tag) h t_1 (fun (v_24 : Array Value) =>
  storeAggK (sizeOfT Tryz.prog T.api_Tag) h t_1 v_24 (fun (h : Heap) =>
  quietK Tryz.prog .agg (Instr.loadAt T.api_Tag (.pointer t_1)) (fun (r_25 : Array Value) =>
  R (.agg r_25) h) h))) h) h)) h)) h))))
def tags_number.ann : Ann := (.seq .leaf (.seq (.any (.loc 0 (.loc 3 (.alt 1 (.alt 2 (.last 4 (.last 5 (.last 6 (.last 7 .done)))) (.last 4 (.last 2 (.last 5 (.last 6 (.last 7 .done)))))) (.last 4 (.last 1 (.last 2 (.last 5 (.last 6 (.last 7 .done)))))))))) (.seq .leaf .leaf)))
theorem tags_number.eq (n0 : Int) (R : Value → Heap → Prop) (h : Heap) : tags_number.body n0 R h = evFn Tryz.prog Tryz.f63 tags_number.ann [(.int .i64 n0)] R h := by kernel_rfl
theorem tags_number.calls {n0 : Int} {R : Value → Heap → Prop} {h : Heap} (H : tags_number.body n0 R h) : HC Tryz.prog F.tags_number #[(.int .i64 n0)] R h :=
  evFn_sound mixed Tryz.func63 (by kernel_rfl) (tags_number.eq n0 R h ▸ H)

/-! (zugzwang/tags.book).ask -/
def tags_book_ask.body (b0 : Array Value) (x1 : Array Value) (R : Value → Heap → Prop) (h : Heap) : Prop :=
  newK h b0 T.tags_book (fun (b_1 : Option Addr) (h : Heap) =>
  newK h x1 T.tags_thing (fun (x_2 : Option Addr) (h : Heap) =>
  newK h (zerosOf Tryz.prog T.api_Tag) T.api_Tag (fun (v_3 : Option Addr) (h : Heap) =>
  fldK b_1 0 (fun (a_4 : Addr) =>
  loadK .map h ((some a_4)) (fun (v_5 : Option Nat) =>
  loadAggK (sizeOfT Tryz.prog T.tags_thing) h x_2 (fun (v_6 : Array Value) =>
  quietK Tryz.prog (Kd.pair (.int .i64) .bool) (Instr.lookup T.map_atags_thing_int (.map v_5) (.agg v_6) true) (fun (v_7 : Int × Bool) =>
  if (!v_7.2) = true then
  fldK b_1 0 (fun (a_8 : Addr) =>
  loadK .map h ((some a_8)) (fun (v_9 : Option Nat) =>
  quietK Tryz.prog (.int .i64) (Builtin.len_ #[T.map_atags_thing_int] T.int #[(.map v_9)]) (fun (v_10 : Int) =>
  fldK b_1 0 (fun (a_11 : Addr) =>
  loadK .map h ((some a_11)) (fun (v_12 : Option Nat) =>
  loadAggK (sizeOfT Tryz.prog T.tags_thing) h x_2 (fun (v_13 : Array Value) =>
  unitK Tryz.prog (Instr.mapUpdate T.map_atags_thing_int (.map v_12) (.agg v_13) (.int .i64 v_10)) (fun (h : Heap) =>
  callK Tryz.prog .agg F.tags_number #[(.int .i64 v_10)] (fun (v_14 : Array Value) (h : Heap) =>
  storeAggK (sizeOfT Tryz.prog T.api_Tag) h v_3 v_14 (fun (h : Heap) =>
  quietK Tryz.prog .agg (Instr.loadAt T.api_Tag (.pointer v_3)) (fun (r_15 : Array Value) =>
  R (.agg r_15) h) h)) h) h)))) h))
  else
  callK Tryz.prog .agg F.tags_number #[(.int .i64 v_7.1)] (fun (v_16 : Array Value) (h : Heap) =>
  storeAggK (sizeOfT Tryz.prog T.api_Tag) h v_3 v_16 (fun (h : Heap) =>
  quietK Tryz.prog .agg (Instr.loadAt T.api_Tag (.pointer v_3)) (fun (r_17 : Array Value) =>
  R (.agg r_17) h) h)) h) h))))))
def tags_book_ask.ann : Ann := (.seq .leaf (.seq .leaf (.seq (.seq .leaf (.cond (.seq .leaf .leaf) .leaf)) (.seq .leaf .leaf))))
theorem tags_book_ask.eq (b0 : Array Value) (x1 : Array Value) (R : Value → Heap → Prop) (h : Heap) : tags_book_ask.body b0 x1 R h = evFn Tryz.prog Tryz.f49 tags_book_ask.ann [(.agg b0), (.agg x1)] R h := by kernel_rfl
theorem tags_book_ask.calls {b0 : Array Value} {x1 : Array Value} {R : Value → Heap → Prop} {h : Heap} (H : tags_book_ask.body b0 x1 R h) : HC Tryz.prog F.tags_book_ask #[(.agg b0), (.agg x1)] R h :=
  evFn_sound mixed Tryz.func49 (by kernel_rfl) (tags_book_ask.eq b0 x1 R h ▸ H)

/-! (*zugzwang/tags.Maker).Sum -/
def tags_Maker_Sum.body (m0 : Option Addr) (rows1 : Sl) (R : Value → Heap → Prop) (h : Heap) : Prop :=
  newK h (zerosOf Tryz.prog T.api_Tag) T.api_Tag (fun (v_1 : Option Addr) (h : Heap) =>
  callK Tryz.prog .bool F.tags_Maker_there #[(.pointer m0)] (fun (v_2 : Bool) (h : Heap) =>
  if (!v_2) = true then
  buildK Tryz.prog (Instr.build T.api_Tag #[]) (fun (v_3 : Array Value) =>
  storeAggK (sizeOfT Tryz.prog T.api_Tag) h v_1 v_3 (fun (h : Heap) =>
  quietK Tryz.prog .agg (Instr.loadAt T.api_Tag (.pointer v_1)) (fun (r_4 : Array Value) =>
  R (.agg r_4) h) h))
  else
  derefK m0 (fun (a_5 : Addr) =>
  fldK ((some a_5)) 1 (fun (a_6 : Addr) =>
  loadK .bool h ((some a_6)) (fun (v_7 : Bool) =>
  if v_7 = true then
  callK Tryz.prog .agg F.digest_Of #[(.slice rows1.a rows1.n rows1.c)] (fun (v_8 : Array Value) (h : Heap) =>
  storeAggK (sizeOfT Tryz.prog T.api_Tag) h v_1 v_8 (fun (h : Heap) =>
  quietK Tryz.prog .agg (Instr.loadAt T.api_Tag (.pointer v_1)) (fun (r_9 : Array Value) =>
  R (.agg r_9) h) h)) h
  else
  derefK m0 (fun (a_10 : Addr) =>
  fldK ((some a_10)) 0 (fun (a_11 : Addr) =>
  loadAggK (sizeOfT Tryz.prog T.tags_book) h ((some a_11)) (fun (v_12 : Array Value) =>
  callK Tryz.prog .slice F.slices_Concat_byte_byte #[(.slice rows1.a rows1.n rows1.c)] (fun (v_13 : Sl) (h : Heap) =>
  stillAggK (sizeOfT Tryz.prog T.tags_book) h ((some a_11)) v_12 ∧
  opK Tryz.prog .str (convert T.sl_uint8 T.string (.slice v_13.a v_13.n v_13.c)) (fun (v_14 : ByteArray) (h : Heap) =>
  buildK Tryz.prog (Instr.build T.tags_thing #[(0, (.int .u8 115)), (2, (.string v_14))]) (fun (v_15 : Array Value) =>
  callK Tryz.prog .agg F.tags_book_ask #[(.agg v_12), (.agg v_15)] (fun (v_16 : Array Value) (h : Heap) =>
  storeAggK (sizeOfT Tryz.prog T.api_Tag) h v_1 v_16 (fun (h : Heap) =>
  quietK Tryz.prog .agg (Instr.loadAt T.api_Tag (.pointer v_1)) (fun (r_17 : Array Value) =>
  R (.agg r_17) h) h)) h)) h) h))))))) h)
def tags_Maker_Sum.ann : Ann := (.seq .leaf (.seq (.block (.seq .leaf (.cond (.seq .leaf .leaf) (.seq .leaf (.cond (.seq .leaf .leaf) .leaf))))) (.seq (.any (.loc 0 (.loc 1 (.loc 2 (.loc 4 (.st 3 768 (.last 5 (.last 6 (.loc 7 (.last 8 (.last 9 .done))))))))))) .leaf)))
theorem tags_Maker_Sum.eq (m0 : Option Addr) (rows1 : Sl) (R : Value → Heap → Prop) (h : Heap) : tags_Maker_Sum.body m0 rows1 R h = evFn Tryz.prog Tryz.f22 tags_Maker_Sum.ann [(.pointer m0), (.slice rows1.a rows1.n rows1.c)] R h := by kernel_rfl
theorem tags_Maker_Sum.calls {m0 : Option Addr} {rows1 : Sl} {R : Value → Heap → Prop} {h : Heap} (H : tags_Maker_Sum.body m0 rows1 R h) : HC Tryz.prog F.tags_Maker_Sum #[(.pointer m0), (.slice rows1.a rows1.n rows1.c)] R h :=
  evFn_sound mixed Tryz.func22 (by kernel_rfl) (tags_Maker_Sum.eq m0 rows1 R h ▸ H)

/-! (zugzwang/chain.smith).root -/
def chain_smith_root.body (s0 : Array Value) (R : Value → Heap → Prop) (h : Heap) : Prop :=
  newK h s0 T.chain_smith (fun (s_1 : Option Addr) (h : Heap) =>
  newK h (zerosOf Tryz.prog T.api_Tag) T.api_Tag (fun (v_2 : Option Addr) (h : Heap) =>
  fldK s_1 0 (fun (a_3 : Addr) =>
  fldK s_1 1 (fun (a_4 : Addr) =>
  sliceArrK ((some a_4)) 32 none none none (sizeOfT Tryz.prog T.uint8) (fun (v_5 : Sl) =>
  loadK .ptr h ((some a_3)) (fun (v_6 : Option Addr) =>
  newSlK h 4 #[(.int .u8 114), (.int .u8 111), (.int .u8 111), (.int .u8 116)] T.uint8 (fun (v_7 : Sl) (h : Heap) =>
  opK Tryz.prog .slice (convert T.sl_uint8 T.sl_uint8 (.slice v_7.a v_7.n v_7.c)) (fun (v_8 : Sl) (h : Heap) =>
  newSlK h 2 #[(.slice v_8.a v_8.n v_8.c), (.slice v_5.a v_5.n v_5.c)] T.sl_uint8 (fun (v_9 : Sl) (h : Heap) =>
  callK Tryz.prog .agg F.tags_Maker_Sum #[(.pointer v_6), (.slice v_9.a v_9.n v_9.c)] (fun (v_10 : Array Value) (h : Heap) =>
  storeAggK (sizeOfT Tryz.prog T.api_Tag) h v_2 v_10 (fun (h : Heap) =>
  quietK Tryz.prog .agg (Instr.loadAt T.api_Tag (.pointer v_2)) (fun (r_11 : Array Value) =>
  R (.agg r_11) h) h)) h)) h)))))))
def chain_smith_root.ann : Ann := (.seq .leaf (.seq (.any (.loc 0 (.loc 4 (.loc 5 (.st 1 384 (.last 2 (.last 3 (.last 6 (.last 7 (.last 8 .done)))))))))) .leaf))
theorem chain_smith_root.eq (s0 : Array Value) (R : Value → Heap → Prop) (h : Heap) : chain_smith_root.body s0 R h = evFn Tryz.prog Tryz.f52 chain_smith_root.ann [(.agg s0)] R h := by kernel_rfl
theorem chain_smith_root.calls {s0 : Array Value} {R : Value → Heap → Prop} {h : Heap} (H : chain_smith_root.body s0 R h) : HC Tryz.prog F.chain_smith_root #[(.agg s0)] R h :=
  evFn_sound mixed Tryz.func52 (by kernel_rfl) (chain_smith_root.eq s0 R h ▸ H)

/-! (*zugzwang/chain.Chain).Head -/
def chain_Chain_Head.body (c0 : Option Addr) (R : Value → Heap → Prop) (h : Heap) : Prop :=
  newK h (zerosOf Tryz.prog T.api_Tag) T.api_Tag (fun (t_1 : Option Addr) (h : Heap) =>
  callK Tryz.prog (.int .i64) F.chain_Chain_Len #[(.pointer c0)] (fun (v_2 : Int) (h : Heap) =>
  callK Tryz.prog .bool F.chain_Chain_made #[(.pointer c0)] (fun (v_3 : Bool) (h : Heap) =>
  if (!v_3) = true then
  loadAggK (sizeOfT Tryz.prog T.api_Tag) h t_1 (fun (v_4 : Array Value) =>
  storeAggK (sizeOfT Tryz.prog T.api_Tag) h t_1 v_4 (fun (h : Heap) =>
  quietK Tryz.prog .agg (Instr.loadAt T.api_Tag (.pointer t_1)) (fun (r_5 : Array Value) =>
  R (.agg r_5) h) h))
  else
  if (decide (v_2 > 0)) = true then
  derefK c0 (fun (a_6 : Addr) =>
  fldK ((some a_6)) 34 (fun (a_7 : Addr) =>
  loadK .slice h ((some a_7)) (fun (v_8 : Sl) =>
  idxK v_8 (IntKind.i64.wrap (v_2 - 1)) (sizeOfT Tryz.prog T.api_Tag) (fun (a_9 : Addr) =>
  loadAggK (sizeOfT Tryz.prog T.api_Tag) h ((some a_9)) (fun (v_10 : Array Value) =>
  storeAggK (sizeOfT Tryz.prog T.api_Tag) h t_1 v_10 (fun (h : Heap) =>
  quietK Tryz.prog .agg (Instr.loadAt T.api_Tag (.pointer t_1)) (fun (r_11 : Array Value) =>
  R (.agg r_11) h) h))))))
  else
  derefK c0 (fun (a_12 : Addr) =>
  fldK ((some a_12)) 0 (fun (a_13 : Addr) =>
  loadAggK (sizeOfT Tryz.prog T.chain_smith) h ((some a_13)) (fun (v_14 : Array Value) =>
  callK Tryz.prog .agg F.chain_smith_root #[(.agg v_14)] (fun (v_15 : Array Value) (h : Heap) =>
  storeAggK (sizeOfT Tryz.prog T.api_Tag) h t_1 v_15 (fun (h : Heap) =>
  quietK Tryz.prog .agg (Instr.loadAt T.api_Tag (.pointer t_1)) (fun (r_16 : Array Value) =>
  R (.agg r_16) h) h)) h)))) h) h)
def chain_Chain_Head.ann : Ann := (.seq .leaf (.seq (.seq .leaf (.block (.seq .leaf (.cond (.seq .leaf .leaf) (.seq .leaf (.cond (.seq .leaf .leaf) .leaf)))))) (.seq .leaf .leaf)))
theorem chain_Chain_Head.eq (c0 : Option Addr) (R : Value → Heap → Prop) (h : Heap) : chain_Chain_Head.body c0 R h = evFn Tryz.prog Tryz.f26 chain_Chain_Head.ann [(.pointer c0)] R h := by kernel_rfl
theorem chain_Chain_Head.calls {c0 : Option Addr} {R : Value → Heap → Prop} {h : Heap} (H : chain_Chain_Head.body c0 R h) : HC Tryz.prog F.chain_Chain_Head #[(.pointer c0)] R h :=
  evFn_sound mixed Tryz.func26 (by kernel_rfl) (chain_Chain_Head.eq c0 R h ▸ H)

/-! (*zugzwang/chain.Chain).Next -/
def chain_Chain_Next.body (c0 : Option Addr) (b1 : Array Value) (R : Value → Heap → Prop) (h : Heap) : Prop :=
  newK h b1 T.api_Body (fun (b_1 : Option Addr) (h : Heap) =>
  newK h (zerosOf Tryz.prog T.api_Entry) T.api_Entry (fun (e_2 : Option Addr) (h : Heap) =>
  joinW (fun (s_3 : Unit) (h : Heap) =>
  derefK c0 (fun (a_4 : Addr) =>
  fldK ((some a_4)) 0 (fun (a_5 : Addr) =>
  fldK ((some a_5)) 1 (fun (a_6 : Addr) =>
  loadAggK (sizeOfT Tryz.prog T.api_Tag) h ((some a_6)) (fun (v_7 : Array Value) =>
  loadAggK (sizeOfT Tryz.prog T.api_Body) h b_1 (fun (v_8 : Array Value) =>
  callK Tryz.prog (.int .i64) F.chain_Chain_Len #[(.pointer c0)] (fun (v_9 : Int) (h : Heap) =>
  stillAggK (sizeOfT Tryz.prog T.api_Body) h b_1 v_8 ∧
  stillAggK (sizeOfT Tryz.prog T.api_Tag) h ((some a_6)) v_7 ∧
  callK Tryz.prog .agg F.chain_Chain_Head #[(.pointer c0)] (fun (v_10 : Array Value) (h : Heap) =>
  stillAggK (sizeOfT Tryz.prog T.api_Body) h b_1 v_8 ∧
  stillAggK (sizeOfT Tryz.prog T.api_Tag) h ((some a_6)) v_7 ∧
  buildK Tryz.prog (Instr.build T.api_Entry #[(0, (.agg v_7)), (1, (.int .i64 v_9)), (2, (.agg v_10)), (3, (.agg v_8))]) (fun (v_11 : Array Value) =>
  storeAggK (sizeOfT Tryz.prog T.api_Entry) h e_2 v_11 (fun (h : Heap) =>
  quietK Tryz.prog .agg (Instr.loadAt T.api_Entry (.pointer e_2)) (fun (r_12 : Array Value) =>
  R (.tuple #[(.agg r_12), (.int .i64 0)]) h) h))) h) h))))))
  (fun J_13 =>
  callK Tryz.prog .bool F.chain_Chain_made #[(.pointer c0)] (fun (v_14 : Bool) (h : Heap) =>
  if (!v_14) = true then
  loadAggK (sizeOfT Tryz.prog T.api_Entry) h e_2 (fun (v_15 : Array Value) =>
  storeAggK (sizeOfT Tryz.prog T.api_Entry) h e_2 v_15 (fun (h : Heap) =>
  quietK Tryz.prog .agg (Instr.loadAt T.api_Entry (.pointer e_2)) (fun (r_16 : Array Value) =>
  R (.tuple #[(.agg r_16), (.int .i64 1)]) h) h))
  else
  loadAggK (sizeOfT Tryz.prog T.api_Body) h b_1 (fun (v_17 : Array Value) =>
  callK Tryz.prog .bool F.msg_Body #[(.agg v_17)] (fun (v_18 : Bool) (h : Heap) =>
  if (!v_18) = true then
  if (!v_18) = true then
  loadAggK (sizeOfT Tryz.prog T.api_Entry) h e_2 (fun (v_19 : Array Value) =>
  storeAggK (sizeOfT Tryz.prog T.api_Entry) h e_2 v_19 (fun (h : Heap) =>
  quietK Tryz.prog .agg (Instr.loadAt T.api_Entry (.pointer e_2)) (fun (r_20 : Array Value) =>
  R (.tuple #[(.agg r_20), (.int .i64 2)]) h) h))
  else
  J_13 () h
  else
  callK Tryz.prog (.int .i64) F.chain_Chain_Len #[(.pointer c0)] (fun (v_21 : Int) (h : Heap) =>
  if (decide (v_21 > 4294967295)) = true then
  loadAggK (sizeOfT Tryz.prog T.api_Entry) h e_2 (fun (v_22 : Array Value) =>
  storeAggK (sizeOfT Tryz.prog T.api_Entry) h e_2 v_22 (fun (h : Heap) =>
  quietK Tryz.prog .agg (Instr.loadAt T.api_Entry (.pointer e_2)) (fun (r_23 : Array Value) =>
  R (.tuple #[(.agg r_23), (.int .i64 2)]) h) h))
  else
  J_13 () h) h) h)) h)))
def chain_Chain_Next.ann : Ann := (.seq .leaf (.join [] (.block (.seq .leaf (.cond (.seq .leaf .leaf) (.seq (.seq .leaf (.cond .leaf .leaf)) (.cond (.seq .leaf .leaf) .leaf))))) (.seq (.any (.loc 0 (.loc 1 (.loc 2 (.loc 3 (.loc 5 (.loc 7 (.st 4 7168 (.st 9 7168 (.last 6 (.last 8 (.loc 10 (.last 11 (.loc 12 .done)))))))))))))) .leaf)))
theorem chain_Chain_Next.eq (c0 : Option Addr) (b1 : Array Value) (R : Value → Heap → Prop) (h : Heap) : chain_Chain_Next.body c0 b1 R h = evFn Tryz.prog Tryz.f6 chain_Chain_Next.ann [(.pointer c0), (.agg b1)] R h := by kernel_rfl
theorem chain_Chain_Next.calls {c0 : Option Addr} {b1 : Array Value} {R : Value → Heap → Prop} {h : Heap} (H : chain_Chain_Next.body c0 b1 R h) : HC Tryz.prog F.chain_Chain_Next #[(.pointer c0), (.agg b1)] R h :=
  evFn_sound mixed Tryz.func6 (by kernel_rfl) (chain_Chain_Next.eq c0 b1 R h ▸ H)

/-! (*zugzwang/chain.Chain).At -/
def chain_Chain_At.body (c0 : Option Addr) (n1 : Int) (R : Value → Heap → Prop) (h : Heap) : Prop :=
  newK h (zerosOf Tryz.prog T.api_Entry) T.api_Entry (fun (e_1 : Option Addr) (h : Heap) =>
  if (decide (n1 < 0)) = true then
  loadAggK (sizeOfT Tryz.prog T.api_Entry) h e_1 (fun (v_2 : Array Value) =>
  storeAggK (sizeOfT Tryz.prog T.api_Entry) h e_1 v_2 (fun (h : Heap) =>
  quietK Tryz.prog .agg (Instr.loadAt T.api_Entry (.pointer e_1)) (fun (r_3 : Array Value) =>
  R (.tuple #[(.agg r_3), (.bool false)]) h) h))
  else
  callK Tryz.prog (.int .i64) F.chain_Chain_Len #[(.pointer c0)] (fun (v_4 : Int) (h : Heap) =>
  if (decide (n1 ≥ v_4)) = true then
  loadAggK (sizeOfT Tryz.prog T.api_Entry) h e_1 (fun (v_5 : Array Value) =>
  storeAggK (sizeOfT Tryz.prog T.api_Entry) h e_1 v_5 (fun (h : Heap) =>
  quietK Tryz.prog .agg (Instr.loadAt T.api_Entry (.pointer e_1)) (fun (r_6 : Array Value) =>
  R (.tuple #[(.agg r_6), (.bool false)]) h) h))
  else
  derefK c0 (fun (a_7 : Addr) =>
  fldK ((some a_7)) 33 (fun (a_8 : Addr) =>
  loadK .slice h ((some a_8)) (fun (v_9 : Sl) =>
  idxK v_9 n1 (sizeOfT Tryz.prog T.api_Entry) (fun (a_10 : Addr) =>
  loadAggK (sizeOfT Tryz.prog T.api_Entry) h ((some a_10)) (fun (v_11 : Array Value) =>
  storeAggK (sizeOfT Tryz.prog T.api_Entry) h e_1 v_11 (fun (h : Heap) =>
  quietK Tryz.prog .agg (Instr.loadAt T.api_Entry (.pointer e_1)) (fun (r_12 : Array Value) =>
  R (.tuple #[(.agg r_12), (.bool true)]) h) h))))))) h)
def chain_Chain_At.ann : Ann := (.seq .leaf (.seq (.seq .leaf (.cond (.seq .leaf .leaf) .leaf)) (.seq .leaf .leaf)))
theorem chain_Chain_At.eq (c0 : Option Addr) (n1 : Int) (R : Value → Heap → Prop) (h : Heap) : chain_Chain_At.body c0 n1 R h = evFn Tryz.prog Tryz.f29 chain_Chain_At.ann [(.pointer c0), (.int .i64 n1)] R h := by kernel_rfl
theorem chain_Chain_At.calls {c0 : Option Addr} {n1 : Int} {R : Value → Heap → Prop} {h : Heap} (H : chain_Chain_At.body c0 n1 R h) : HC Tryz.prog F.chain_Chain_At #[(.pointer c0), (.int .i64 n1)] R h :=
  evFn_sound mixed Tryz.func29 (by kernel_rfl) (chain_Chain_At.eq c0 n1 R h ▸ H)

/-! zugzwang/msg.Entry -/
def msg_Entry.body (e0 : Array Value) (R : Value → Heap → Prop) (h : Heap) : Prop :=
  newK h e0 T.api_Entry (fun (e_1 : Option Addr) (h : Heap) =>
  fldK e_1 32 (fun (a_2 : Addr) =>
  loadK (.int .i64) h ((some a_2)) (fun (v_3 : Int) =>
  if (decide (v_3 ≥ 0)) = true then
  fldK e_1 32 (fun (a_4 : Addr) =>
  loadK (.int .i64) h ((some a_4)) (fun (v_5 : Int) =>
  if (decide (v_5 ≤ 4294967295)) = true then
  fldK e_1 65 (fun (a_6 : Addr) =>
  loadAggK (sizeOfT Tryz.prog T.api_Body) h ((some a_6)) (fun (v_7 : Array Value) =>
  callK Tryz.prog .bool F.msg_Body #[(.agg v_7)] (fun (v_8 : Bool) (h : Heap) =>
  R (.bool v_8) h) h))
  else
  R (.bool false) h))
  else
  R (.bool false) h)))
def msg_Entry.ann : Ann := (.seq .leaf (.seq .leaf .leaf))
theorem msg_Entry.eq (e0 : Array Value) (R : Value → Heap → Prop) (h : Heap) : msg_Entry.body e0 R h = evFn Tryz.prog Tryz.f31 msg_Entry.ann [(.agg e0)] R h := by kernel_rfl
theorem msg_Entry.calls {e0 : Array Value} {R : Value → Heap → Prop} {h : Heap} (H : msg_Entry.body e0 R h) : HC Tryz.prog F.msg_Entry #[(.agg e0)] R h :=
  evFn_sound mixed Tryz.func31 (by kernel_rfl) (msg_Entry.eq e0 R h ▸ H)

/-! (*zugzwang/chain.Chain).Why$1 -/
def chain_Chain_Why_1.body (x0 : Option Addr) (R : Value → Heap → Prop) (h : Heap) : Prop :=
  loadAggK (sizeOfT Tryz.prog T.api_Entry) h x0 (fun (v_1 : Array Value) =>
  callK Tryz.prog .bool F.msg_Entry #[(.agg v_1)] (fun (v_2 : Bool) (h : Heap) =>
  R (.bool (!v_2)) h) h)
def chain_Chain_Why_1.ann : Ann := (.seq .leaf (.seq .leaf .leaf))
theorem chain_Chain_Why_1.eq (x0 : Option Addr) (R : Value → Heap → Prop) (h : Heap) : chain_Chain_Why_1.body x0 R h = evFn Tryz.prog Tryz.f30 chain_Chain_Why_1.ann [(.pointer x0)] R h := by kernel_rfl
theorem chain_Chain_Why_1.calls {x0 : Option Addr} {R : Value → Heap → Prop} {h : Heap} (H : chain_Chain_Why_1.body x0 R h) : HC Tryz.prog F.chain_Chain_Why_1 #[(.pointer x0)] R h :=
  evFn_sound mixed Tryz.func30 (by kernel_rfl) (chain_Chain_Why_1.eq x0 R h ▸ H)

/-! (*zugzwang/chain.Chain).Why$2 -/
def chain_Chain_Why_2.body (x0 : Option Addr) (x1 : Option Addr) (R : Value → Heap → Prop) (h : Heap) : Prop :=
  fldK x0 0 (fun (a_1 : Addr) =>
  loadAggK (sizeOfT Tryz.prog T.api_Tag) h ((some a_1)) (fun (v_2 : Array Value) =>
  loadK .ptr h x1 (fun (v_3 : Option Addr) =>
  derefK v_3 (fun (a_4 : Addr) =>
  fldK ((some a_4)) 0 (fun (a_5 : Addr) =>
  fldK ((some a_5)) 1 (fun (a_6 : Addr) =>
  loadAggK (sizeOfT Tryz.prog T.api_Tag) h ((some a_6)) (fun (v_7 : Array Value) =>
  eqK Tryz.prog (binSem .neq T.api_Tag (.tmp 4) (.tmp 9) (.agg v_2) (.agg v_7)) (fun (v_8 : Bool) =>
  R (.bool v_8) h))))))))
def chain_Chain_Why_2.ann : Ann := (.seq .leaf (.seq .leaf .leaf))
theorem chain_Chain_Why_2.eq (x0 : Option Addr) (x1 : Option Addr) (R : Value → Heap → Prop) (h : Heap) : chain_Chain_Why_2.body x0 x1 R h = evFn Tryz.prog Tryz.f32 chain_Chain_Why_2.ann [(.pointer x0), (.pointer x1)] R h := by kernel_rfl
theorem chain_Chain_Why_2.calls {x0 : Option Addr} {x1 : Option Addr} {R : Value → Heap → Prop} {h : Heap} (H : chain_Chain_Why_2.body x0 x1 R h) : HC Tryz.prog F.chain_Chain_Why_2 #[(.pointer x0), (.pointer x1)] R h :=
  evFn_sound mixed Tryz.func32 (by kernel_rfl) (chain_Chain_Why_2.eq x0 x1 R h ▸ H)

/-! (*zugzwang/chain.Chain).Why$3 -/
def chain_Chain_Why_3.body (x0 : Option Addr) (x1 : Option Addr) (x2 : Option Addr) (R : Value → Heap → Prop) (h : Heap) : Prop :=
  loadK .bool h x0 (fun (v_1 : Bool) =>
  if v_1 = true then
  loadAggK (sizeOfT Tryz.prog T.api_Entry) h x1 (fun (v_2 : Array Value) =>
  loadAggK (sizeOfT Tryz.prog T.api_Entry) h x2 (fun (v_3 : Array Value) =>
  eqK Tryz.prog (binSem .eql T.api_Entry (.tmp 6) (.tmp 7) (.agg v_2) (.agg v_3)) (fun (v_4 : Bool) =>
  R (.bool v_4) h)))
  else
  R (.bool false) h)
def chain_Chain_Why_3.ann : Ann := (.seq .leaf (.seq .leaf .leaf))
theorem chain_Chain_Why_3.eq (x0 : Option Addr) (x1 : Option Addr) (x2 : Option Addr) (R : Value → Heap → Prop) (h : Heap) : chain_Chain_Why_3.body x0 x1 x2 R h = evFn Tryz.prog Tryz.f33 chain_Chain_Why_3.ann [(.pointer x0), (.pointer x1), (.pointer x2)] R h := by kernel_rfl
theorem chain_Chain_Why_3.calls {x0 : Option Addr} {x1 : Option Addr} {x2 : Option Addr} {R : Value → Heap → Prop} {h : Heap} (H : chain_Chain_Why_3.body x0 x1 x2 R h) : HC Tryz.prog F.chain_Chain_Why_3 #[(.pointer x0), (.pointer x1), (.pointer x2)] R h :=
  evFn_sound mixed Tryz.func33 (by kernel_rfl) (chain_Chain_Why_3.eq x0 x1 x2 R h ▸ H)

/-! (*zugzwang/chain.Chain).Why$4 -/
def chain_Chain_Why_4.body (x0 : Option Addr) (R : Value → Heap → Prop) (h : Heap) : Prop :=
  loadK .bool h x0 (fun (v_1 : Bool) =>
  R (.bool v_1) h)
def chain_Chain_Why_4.ann : Ann := (.seq .leaf (.seq .leaf .leaf))
theorem chain_Chain_Why_4.eq (x0 : Option Addr) (R : Value → Heap → Prop) (h : Heap) : chain_Chain_Why_4.body x0 R h = evFn Tryz.prog Tryz.f34 chain_Chain_Why_4.ann [(.pointer x0)] R h := by kernel_rfl
theorem chain_Chain_Why_4.calls {x0 : Option Addr} {R : Value → Heap → Prop} {h : Heap} (H : chain_Chain_Why_4.body x0 R h) : HC Tryz.prog F.chain_Chain_Why_4 #[(.pointer x0)] R h :=
  evFn_sound mixed Tryz.func34 (by kernel_rfl) (chain_Chain_Why_4.eq x0 R h ▸ H)

/-! (*zugzwang/chain.Chain).Why$5 -/
def chain_Chain_Why_5.body (x0 : Option Addr) (x1 : Option Addr) (R : Value → Heap → Prop) (h : Heap) : Prop :=
  fldK x0 32 (fun (a_1 : Addr) =>
  loadK (.int .i64) h ((some a_1)) (fun (v_2 : Int) =>
  loadK .ptr h x1 (fun (v_3 : Option Addr) =>
  callQ Tryz.prog (.int .i64) F.chain_Chain_Len #[(.pointer v_3)] (fun (v_4 : Int) =>
  R (.bool (decide (v_2 > v_4))) h) h)))
def chain_Chain_Why_5.ann : Ann := (.seq .leaf (.seq .leaf .leaf))
theorem chain_Chain_Why_5.eq (x0 : Option Addr) (x1 : Option Addr) (R : Value → Heap → Prop) (h : Heap) : chain_Chain_Why_5.body x0 x1 R h = evFn Tryz.prog Tryz.f35 chain_Chain_Why_5.ann [(.pointer x0), (.pointer x1)] R h := by kernel_rfl
theorem chain_Chain_Why_5.calls {x0 : Option Addr} {x1 : Option Addr} {R : Value → Heap → Prop} {h : Heap} (H : chain_Chain_Why_5.body x0 x1 R h) : HC Tryz.prog F.chain_Chain_Why_5 #[(.pointer x0), (.pointer x1)] R h :=
  evFn_sound mixed Tryz.func35 (by kernel_rfl) (chain_Chain_Why_5.eq x0 x1 R h ▸ H)

/-! (*zugzwang/chain.Chain).Why$6 -/
def chain_Chain_Why_6.body (x0 : Option Addr) (x1 : Option Addr) (R : Value → Heap → Prop) (h : Heap) : Prop :=
  fldK x0 33 (fun (a_1 : Addr) =>
  loadAggK (sizeOfT Tryz.prog T.api_Tag) h ((some a_1)) (fun (v_2 : Array Value) =>
  loadK .ptr h x1 (fun (v_3 : Option Addr) =>
  callK Tryz.prog .agg F.chain_Chain_Head #[(.pointer v_3)] (fun (v_4 : Array Value) (h : Heap) =>
  stillAggK (sizeOfT Tryz.prog T.api_Tag) h ((some a_1)) v_2 ∧
  eqK Tryz.prog (binSem .neq T.api_Tag (.tmp 4) (.tmp 6) (.agg v_2) (.agg v_4)) (fun (v_5 : Bool) =>
  R (.bool v_5) h)) h)))
def chain_Chain_Why_6.ann : Ann := (.seq .leaf (.seq (.any (.loc 0 (.st 1 48 (.st 2 56 (.last 3 (.loc 4 (.loc 5 .done))))))) .leaf))
theorem chain_Chain_Why_6.eq (x0 : Option Addr) (x1 : Option Addr) (R : Value → Heap → Prop) (h : Heap) : chain_Chain_Why_6.body x0 x1 R h = evFn Tryz.prog Tryz.f36 chain_Chain_Why_6.ann [(.pointer x0), (.pointer x1)] R h := by kernel_rfl
theorem chain_Chain_Why_6.calls {x0 : Option Addr} {x1 : Option Addr} {R : Value → Heap → Prop} {h : Heap} (H : chain_Chain_Why_6.body x0 x1 R h) : HC Tryz.prog F.chain_Chain_Why_6 #[(.pointer x0), (.pointer x1)] R h :=
  evFn_sound mixed Tryz.func36 (by kernel_rfl) (chain_Chain_Why_6.eq x0 x1 R h ▸ H)

/-! (*zugzwang/chain.Chain).Why -/
def chain_Chain_Why.body (c0 : Option Addr) (e1 : Array Value) (R : Value → Heap → Prop) (h : Heap) : Prop :=
  newK h #[(.pointer c0)] T.p_chain_Chain (fun (c_1 : Option Addr) (h : Heap) =>
  newK h e1 T.api_Entry (fun (e_2 : Option Addr) (h : Heap) =>
  loadK .ptr h c_1 (fun (v_3 : Option Addr) =>
  callK Tryz.prog .bool F.chain_Chain_made #[(.pointer v_3)] (fun (v_4 : Bool) (h : Heap) =>
  if (!v_4) = true then
  R (.int .i64 1) h
  else
  loadK .ptr h c_1 (fun (v_5 : Option Addr) =>
  fldK e_2 32 (fun (a_6 : Addr) =>
  loadK (.int .i64) h ((some a_6)) (fun (v_7 : Int) =>
  callK Tryz.prog (Kd.pair .agg .bool) F.chain_Chain_At #[(.pointer v_5), (.int .i64 v_7)] (fun (v_8 : Array Value × Bool) (h : Heap) =>
  newK h (zerosOf Tryz.prog T.api_Entry) T.api_Entry (fun (old_9 : Option Addr) (h : Heap) =>
  newK h (zerosOf Tryz.prog T.bool) T.bool (fun (there_10 : Option Addr) (h : Heap) =>
  storeAggK (sizeOfT Tryz.prog T.api_Entry) h old_9 v_8.1 (fun (h : Heap) =>
  storeK h there_10 (.bool v_8.2) (fun (h : Heap) =>
  buildK Tryz.prog (Instr.build T.chain_rule #[(0, (.int .i64 2)), (1, ((Value.func (.func F.chain_Chain_Why_1) #[] #[(.pointer e_2)])))]) (fun (v_11 : Array Value) =>
  buildK Tryz.prog (Instr.build T.chain_rule #[(0, (.int .i64 14)), (1, ((Value.func (.func F.chain_Chain_Why_2) #[] #[(.pointer e_2), (.pointer c_1)])))]) (fun (v_12 : Array Value) =>
  buildK Tryz.prog (Instr.build T.chain_rule #[(0, (.int .i64 12)), (1, ((Value.func (.func F.chain_Chain_Why_3) #[] #[(.pointer there_10), (.pointer old_9), (.pointer e_2)])))]) (fun (v_13 : Array Value) =>
  buildK Tryz.prog (Instr.build T.chain_rule #[(0, (.int .i64 15)), (1, ((Value.func (.func F.chain_Chain_Why_4) #[] #[(.pointer there_10)])))]) (fun (v_14 : Array Value) =>
  buildK Tryz.prog (Instr.build T.chain_rule #[(0, (.int .i64 11)), (1, ((Value.func (.func F.chain_Chain_Why_5) #[] #[(.pointer e_2), (.pointer c_1)])))]) (fun (v_15 : Array Value) =>
  buildK Tryz.prog (Instr.build T.chain_rule #[(0, (.int .i64 7)), (1, ((Value.func (.func F.chain_Chain_Why_6) #[] #[(.pointer e_2), (.pointer c_1)])))]) (fun (v_16 : Array Value) =>
  buildK Tryz.prog (Instr.build T.a6_chain_rule #[(0, (.agg v_11)), (1, (.agg v_12)), (2, (.agg v_13)), (3, (.agg v_14)), (4, (.agg v_15)), (5, (.agg v_16))]) (fun (v_17 : Array Value) =>
  loopW (fun X_19 (s_18 : Int) (h : Heap) =>
  if (decide (s_18 < 6)) = true then
  quietK Tryz.prog .agg (Instr.index T.a6_chain_rule (.agg v_17) (.int .i64 s_18)) (fun (v_20 : Array Value) =>
  newK h (zerosOf Tryz.prog T.chain_rule) T.chain_rule (fun (r_21 : Option Addr) (h : Heap) =>
  storeAggK (sizeOfT Tryz.prog T.chain_rule) h r_21 v_20 (fun (h : Heap) =>
  fldK r_21 1 (fun (a_22 : Addr) =>
  loadK .any h ((some a_22)) (fun (v_23 : Value) =>
  callV Tryz.prog .bool v_23 #[] (fun (v_24 : Bool) (h : Heap) =>
  if v_24 = true then
  fldK r_21 0 (fun (a_25 : Addr) =>
  loadK (.int .i64) h ((some a_25)) (fun (v_26 : Int) =>
  R (.int .i64 v_26) h))
  else
  X_19 (IntKind.i64.wrap (s_18 + 1)) h) h))))) h
  else
  R (.int .i64 0) h) 0 h)))))))))))) h)))) h)))
def chain_Chain_Why.ann : Ann := (.seq .leaf (.seq (.seq .leaf (.cond (.seq .leaf .leaf) .leaf)) (.seq .leaf (.seq (.seq .leaf (.block (.loop [(32, (.int .i64))] (.seq .leaf (.seq (.cond .leaf .leaf) (.seq (.block (.seq .leaf (.seq .leaf (.cond (.seq .leaf .leaf) .leaf)))) .leaf)))))) (.seq .leaf .leaf)))))
theorem chain_Chain_Why.eq (c0 : Option Addr) (e1 : Array Value) (R : Value → Heap → Prop) (h : Heap) : chain_Chain_Why.body c0 e1 R h = evFn Tryz.prog Tryz.f8 chain_Chain_Why.ann [(.pointer c0), (.agg e1)] R h := by kernel_rfl
theorem chain_Chain_Why.calls {c0 : Option Addr} {e1 : Array Value} {R : Value → Heap → Prop} {h : Heap} (H : chain_Chain_Why.body c0 e1 R h) : HC Tryz.prog F.chain_Chain_Why #[(.pointer c0), (.agg e1)] R h :=
  evFn_sound mixed Tryz.func8 (by kernel_rfl) (chain_Chain_Why.eq c0 e1 R h ▸ H)

/-! zugzwang/codec.New -/
def codec_New.body  (R : Value → Heap → Prop) (h : Heap) : Prop :=
  buildK Tryz.prog (Instr.build T.codec_state #[(0, (.bool true))]) (fun (v_1 : Array Value) =>
  buildK Tryz.prog (Instr.build T.codec_Writer #[(0, (.agg v_1))]) (fun (v_2 : Array Value) =>
  newK h v_2 T.codec_Writer (fun (v_3 : Option Addr) (h : Heap) =>
  R (.pointer v_3) h)))
def codec_New.ann : Ann := (.seq .leaf (.seq .leaf .leaf))
theorem codec_New.eq  (R : Value → Heap → Prop) (h : Heap) : codec_New.body  R h = evFn Tryz.prog Tryz.f66 codec_New.ann [] R h := by kernel_rfl
theorem codec_New.calls  {R : Value → Heap → Prop} {h : Heap} (H : codec_New.body  R h) : HC Tryz.prog F.codec_New #[] R h :=
  evFn_sound mixed Tryz.func66 (by kernel_rfl) (codec_New.eq  R h ▸ H)

/-! (*zugzwang/codec.state).sound -/
def codec_state_sound.body (s0 : Option Addr) (R : Value → Heap → Prop) (h : Heap) : Prop :=
  derefK s0 (fun (a_1 : Addr) =>
  fldK ((some a_1)) 1 (fun (a_2 : Addr) =>
  loadK (.int .i64) h ((some a_2)) (fun (v_3 : Int) =>
  R (.bool (v_3 == 0)) h)))
def codec_state_sound.ann : Ann := (.seq .leaf (.seq .leaf .leaf))
theorem codec_state_sound.eq (s0 : Option Addr) (R : Value → Heap → Prop) (h : Heap) : codec_state_sound.body s0 R h = evFn Tryz.prog Tryz.f83 codec_state_sound.ann [(.pointer s0)] R h := by kernel_rfl
theorem codec_state_sound.calls {s0 : Option Addr} {R : Value → Heap → Prop} {h : Heap} (H : codec_state_sound.body s0 R h) : HC Tryz.prog F.codec_state_sound #[(.pointer s0)] R h :=
  evFn_sound mixed Tryz.func83 (by kernel_rfl) (codec_state_sound.eq s0 R h ▸ H)

/-! (*zugzwang/codec.state).spoil -/
def codec_state_spoil.body (s0 : Option Addr) (e1 : Int) (R : Value → Heap → Prop) (h : Heap) : Prop :=
  joinW (fun (s_1 : Unit) (h : Heap) =>
  derefK s0 (fun (a_2 : Addr) =>
  fldK ((some a_2)) 1 (fun (a_3 : Addr) =>
  loadK (.int .i64) h ((some a_3)) (fun (v_4 : Int) =>
  R (.int .i64 v_4) h))))
  (fun J_5 =>
  derefK s0 (fun (a_6 : Addr) =>
  fldK ((some a_6)) 1 (fun (a_7 : Addr) =>
  loadK (.int .i64) h ((some a_7)) (fun (v_8 : Int) =>
  if (v_8 == 0) = true then
  derefK s0 (fun (a_9 : Addr) =>
  fldK ((some a_9)) 1 (fun (a_10 : Addr) =>
  storeK h ((some a_10)) (.int .i64 e1) (fun (h : Heap) =>
  J_5 () h)))
  else
  J_5 () h))))
def codec_state_spoil.ann : Ann := (.seq .leaf (.join [] (.seq .leaf (.cond .leaf .leaf)) (.seq .leaf .leaf)))
theorem codec_state_spoil.eq (s0 : Option Addr) (e1 : Int) (R : Value → Heap → Prop) (h : Heap) : codec_state_spoil.body s0 e1 R h = evFn Tryz.prog Tryz.f127 codec_state_spoil.ann [(.pointer s0), (.int .i64 e1)] R h := by kernel_rfl
theorem codec_state_spoil.calls {s0 : Option Addr} {e1 : Int} {R : Value → Heap → Prop} {h : Heap} (H : codec_state_spoil.body s0 e1 R h) : HC Tryz.prog F.codec_state_spoil #[(.pointer s0), (.int .i64 e1)] R h :=
  evFn_sound mixed Tryz.func127 (by kernel_rfl) (codec_state_spoil.eq s0 e1 R h ▸ H)

/-! zugzwang/codec.put[int] -/
def codec_put_int.body (w0 : Option Addr) (r1 : Array Value) (l2 : Sl) (R : Value → Heap → Prop) (h : Heap) : Prop :=
  newK h r1 T.codec_ruleaint (fun (r_1 : Option Addr) (h : Heap) =>
  if w0.isNone = true then
  R (.int .i64 1) h
  else
  derefK w0 (fun (a_2 : Addr) =>
  fldK ((some a_2)) 0 (fun (a_3 : Addr) =>
  fldK ((some a_3)) 0 (fun (a_4 : Addr) =>
  loadK .bool h ((some a_4)) (fun (v_5 : Bool) =>
  if (!v_5) = true then
  R (.int .i64 1) h
  else
  joinW (fun (s_6 : Unit) (h : Heap) =>
  derefK w0 (fun (a_7 : Addr) =>
  fldK ((some a_7)) 0 (fun (a_8 : Addr) =>
  fldK ((some a_8)) 1 (fun (a_9 : Addr) =>
  loadK (.int .i64) h ((some a_9)) (fun (v_10 : Int) =>
  R (.int .i64 v_10) h)))))
  (fun J_11 =>
  loopW (fun X_13 (s_12 : Int) (h : Heap) =>
  if (decide (s_12 < ((l2.n : Int)))) = true then
  idxK l2 s_12 (sizeOfT Tryz.prog T.int) (fun (a_14 : Addr) =>
  loadK (.int .i64) h ((some a_14)) (fun (v_15 : Int) =>
  derefK w0 (fun (a_16 : Addr) =>
  fldK ((some a_16)) 0 (fun (a_17 : Addr) =>
  callK Tryz.prog .bool F.codec_state_sound #[(.pointer ((some a_17)))] (fun (v_18 : Bool) (h : Heap) =>
  if (!v_18) = true then
  J_11 () h
  else
  joinW (fun (s_19 : Bool) (h : Heap) =>
  if s_19 = true then
  derefK w0 (fun (a_20 : Addr) =>
  fldK ((some a_20)) 0 (fun (a_21 : Addr) =>
  callK Tryz.prog (.int .i64) F.codec_state_spoil #[(.pointer ((some a_21))), (.int .i64 2)] (fun (v_22 : Int) (h : Heap) =>
  R (.int .i64 v_22) h) h))
  else
  fldK r_1 1 (fun (a_23 : Addr) =>
  loadK .any h ((some a_23)) (fun (v_24 : Value) =>
  callV Tryz.prog .slice v_24 #[(.int .i64 v_15)] (fun (v_25 : Sl) (h : Heap) =>
  derefK w0 (fun (a_26 : Addr) =>
  fldK ((some a_26)) 2 (fun (a_27 : Addr) =>
  loadK .slice h ((some a_27)) (fun (v_28 : Sl) =>
  if (decide ((IntKind.i64.wrap (((v_28.n : Int)) + ((v_25.n : Int)))) > 65536)) = true then
  derefK w0 (fun (a_29 : Addr) =>
  fldK ((some a_29)) 0 (fun (a_30 : Addr) =>
  callK Tryz.prog (.int .i64) F.codec_state_spoil #[(.pointer ((some a_30))), (.int .i64 3)] (fun (v_31 : Int) (h : Heap) =>
  R (.int .i64 v_31) h) h))
  else
  derefK w0 (fun (a_32 : Addr) =>
  fldK ((some a_32)) 2 (fun (a_33 : Addr) =>
  loadK .slice h ((some a_33)) (fun (v_34 : Sl) =>
  opK Tryz.prog .slice (Builtin.append_ #[T.sl_uint8, T.sl_uint8] T.sl_uint8 #[(.slice v_34.a v_34.n v_34.c), (.slice v_25.a v_25.n v_25.c)]) (fun (v_35 : Sl) (h : Heap) =>
  derefK w0 (fun (a_36 : Addr) =>
  fldK ((some a_36)) 2 (fun (a_37 : Addr) =>
  storeK h ((some a_37)) (.slice v_35.a v_35.n v_35.c) (fun (h : Heap) =>
  X_13 (IntKind.i64.wrap (s_12 + 1)) h)))) h))))))) h)))
  (fun J_38 =>
  fldK r_1 0 (fun (a_39 : Addr) =>
  loadK .any h ((some a_39)) (fun (v_40 : Value) =>
  eqK Tryz.prog (binSem .neq T.func139 (.tmp 32) (.const Value.nilFunc) v_40 Value.nilFunc) (fun (v_41 : Bool) =>
  if v_41 = true then
  fldK r_1 0 (fun (a_42 : Addr) =>
  loadK .any h ((some a_42)) (fun (v_43 : Value) =>
  callV Tryz.prog .bool v_43 #[(.int .i64 v_15)] (fun (v_44 : Bool) (h : Heap) =>
  J_38 (!v_44) h) h))
  else
  J_38 false h))))) h))))
  else
  J_11 () h) 0 h))))))
def codec_put_int.ann : Ann := (.seq .leaf (.seq (.seq .leaf (.cond (.seq .leaf .leaf) .leaf)) (.join [] (.seq .leaf (.block (.loop [(22, (.int .i64))] (.seq .leaf (.seq (.cond .leaf .leaf) (.seq (.block (.seq .leaf (.seq (.seq .leaf (.cond .leaf .leaf)) (.seq (.join [(40, .bool)] .leaf (.cond (.seq .leaf .leaf) .leaf)) (.seq .leaf (.seq (.seq .leaf (.cond (.seq .leaf .leaf) .leaf)) .leaf)))))) .leaf)))))) (.seq .leaf .leaf))))
theorem codec_put_int.eq (w0 : Option Addr) (r1 : Array Value) (l2 : Sl) (R : Value → Heap → Prop) (h : Heap) : codec_put_int.body w0 r1 l2 R h = evFn Tryz.prog Tryz.f111 codec_put_int.ann [(.pointer w0), (.agg r1), (.slice l2.a l2.n l2.c)] R h := by kernel_rfl
theorem codec_put_int.calls {w0 : Option Addr} {r1 : Array Value} {l2 : Sl} {R : Value → Heap → Prop} {h : Heap} (H : codec_put_int.body w0 r1 l2 R h) : HC Tryz.prog F.codec_put_int #[(.pointer w0), (.agg r1), (.slice l2.a l2.n l2.c)] R h :=
  evFn_sound mixed Tryz.func111 (by kernel_rfl) (codec_put_int.eq w0 r1 l2 R h ▸ H)

/-! zugzwang/codec.within$1 -/
def codec_within_1.body (n0 : Int) (x1 : Option Addr) (R : Value → Heap → Prop) (h : Heap) : Prop :=
  if (decide (n0 ≥ 0)) = true then
  loadK (.int .i64) h x1 (fun (v_1 : Int) =>
  R (.bool (decide (n0 ≤ v_1))) h)
  else
  R (.bool false) h
def codec_within_1.ann : Ann := (.seq .leaf (.seq .leaf .leaf))
theorem codec_within_1.eq (n0 : Int) (x1 : Option Addr) (R : Value → Heap → Prop) (h : Heap) : codec_within_1.body n0 x1 R h = evFn Tryz.prog Tryz.f128 codec_within_1.ann [(.int .i64 n0), (.pointer x1)] R h := by kernel_rfl
theorem codec_within_1.calls {n0 : Int} {x1 : Option Addr} {R : Value → Heap → Prop} {h : Heap} (H : codec_within_1.body n0 x1 R h) : HC Tryz.prog F.codec_within_1 #[(.int .i64 n0), (.pointer x1)] R h :=
  evFn_sound mixed Tryz.func128 (by kernel_rfl) (codec_within_1.eq n0 x1 R h ▸ H)

/-! zugzwang/codec.within -/
def codec_within.body (most0 : Int) (R : Value → Heap → Prop) (h : Heap) : Prop :=
  newK h #[(.int .i64 most0)] T.int (fun (most_1 : Option Addr) (h : Heap) =>
  R ((Value.func (.func F.codec_within_1) #[] #[(.pointer most_1)])) h)
def codec_within.ann : Ann := (.seq .leaf (.seq .leaf .leaf))
theorem codec_within.eq (most0 : Int) (R : Value → Heap → Prop) (h : Heap) : codec_within.body most0 R h = evFn Tryz.prog Tryz.f112 codec_within.ann [(.int .i64 most0)] R h := by kernel_rfl
theorem codec_within.calls {most0 : Int} {R : Value → Heap → Prop} {h : Heap} (H : codec_within.body most0 R h) : HC Tryz.prog F.codec_within #[(.int .i64 most0)] R h :=
  evFn_sound mixed Tryz.func112 (by kernel_rfl) (codec_within.eq most0 R h ▸ H)

/-! (*zugzwang/codec.Writer).Byte$1 -/
def codec_Writer_Byte_1.body (n0 : Int) (R : Value → Heap → Prop) (h : Heap) : Prop :=
  newSlK h 1 #[(.int .u8 (IntKind.u8.wrap n0))] T.uint8 (fun (v_1 : Sl) (h : Heap) =>
  R (.slice v_1.a v_1.n v_1.c) h)
def codec_Writer_Byte_1.ann : Ann := (.seq .leaf (.seq .leaf .leaf))
theorem codec_Writer_Byte_1.eq (n0 : Int) (R : Value → Heap → Prop) (h : Heap) : codec_Writer_Byte_1.body n0 R h = evFn Tryz.prog Tryz.f114 codec_Writer_Byte_1.ann [(.int .i64 n0)] R h := by kernel_rfl
theorem codec_Writer_Byte_1.calls {n0 : Int} {R : Value → Heap → Prop} {h : Heap} (H : codec_Writer_Byte_1.body n0 R h) : HC Tryz.prog F.codec_Writer_Byte_1 #[(.int .i64 n0)] R h :=
  evFn_sound mixed Tryz.func114 (by kernel_rfl) (codec_Writer_Byte_1.eq n0 R h ▸ H)

/-! (*zugzwang/codec.Writer).Byte -/
def codec_Writer_Byte.body (w0 : Option Addr) (l1 : Sl) (R : Value → Heap → Prop) (h : Heap) : Prop :=
  callK Tryz.prog .any F.codec_within #[(.int .i64 255)] (fun (v_1 : Value) (h : Heap) =>
  buildK Tryz.prog (Instr.build T.codec_ruleaint #[(0, v_1), (1, ((Value.func (.func F.codec_Writer_Byte_1) #[] #[])))]) (fun (v_2 : Array Value) =>
  callK Tryz.prog (.int .i64) F.codec_put_int #[(.pointer w0), (.agg v_2), (.slice l1.a l1.n l1.c)] (fun (v_3 : Int) (h : Heap) =>
  R (.int .i64 v_3) h) h)) h
def codec_Writer_Byte.ann : Ann := (.seq .leaf (.seq .leaf .leaf))
theorem codec_Writer_Byte.eq (w0 : Option Addr) (l1 : Sl) (R : Value → Heap → Prop) (h : Heap) : codec_Writer_Byte.body w0 l1 R h = evFn Tryz.prog Tryz.f82 codec_Writer_Byte.ann [(.pointer w0), (.slice l1.a l1.n l1.c)] R h := by kernel_rfl
theorem codec_Writer_Byte.calls {w0 : Option Addr} {l1 : Sl} {R : Value → Heap → Prop} {h : Heap} (H : codec_Writer_Byte.body w0 l1 R h) : HC Tryz.prog F.codec_Writer_Byte #[(.pointer w0), (.slice l1.a l1.n l1.c)] R h :=
  evFn_sound mixed Tryz.func82 (by kernel_rfl) (codec_Writer_Byte.eq w0 l1 R h ▸ H)

/-! (zugzwang/msg.scribe).move -/
def msg_scribe_move.body (s0 : Array Value) (m1 : Array Value) (R : Value → Heap → Prop) (h : Heap) : Prop :=
  newK h s0 T.msg_scribe (fun (s_1 : Option Addr) (h : Heap) =>
  newK h m1 T.api_Move (fun (m_2 : Option Addr) (h : Heap) =>
  fldK s_1 0 (fun (a_3 : Addr) =>
  loadK .ptr h ((some a_3)) (fun (v_4 : Option Addr) =>
  fldK m_2 0 (fun (a_5 : Addr) =>
  loadK (.int .i64) h ((some a_5)) (fun (v_6 : Int) =>
  fldK m_2 1 (fun (a_7 : Addr) =>
  loadK (.int .i64) h ((some a_7)) (fun (v_8 : Int) =>
  fldK m_2 2 (fun (a_9 : Addr) =>
  loadK (.int .i64) h ((some a_9)) (fun (v_10 : Int) =>
  newSlK h 3 #[(.int .i64 v_6), (.int .i64 v_8), (.int .i64 v_10)] T.int (fun (v_11 : Sl) (h : Heap) =>
  callK Tryz.prog (.int .i64) F.codec_Writer_Byte #[(.pointer v_4), (.slice v_11.a v_11.n v_11.c)] (fun (v_12 : Int) (h : Heap) =>
  R (.tuple #[]) h) h)))))))))))
def msg_scribe_move.ann : Ann := (.seq .leaf .leaf)
theorem msg_scribe_move.eq (s0 : Array Value) (m1 : Array Value) (R : Value → Heap → Prop) (h : Heap) : msg_scribe_move.body s0 m1 R h = evFn Tryz.prog Tryz.f126 msg_scribe_move.ann [(.agg s0), (.agg m1)] R h := by kernel_rfl
theorem msg_scribe_move.calls {s0 : Array Value} {m1 : Array Value} {R : Value → Heap → Prop} {h : Heap} (H : msg_scribe_move.body s0 m1 R h) : HC Tryz.prog F.msg_scribe_move #[(.agg s0), (.agg m1)] R h :=
  evFn_sound mixed Tryz.func126 (by kernel_rfl) (msg_scribe_move.eq s0 m1 R h ▸ H)

/-! (zugzwang/msg.scribe).moved -/
def msg_scribe_moved.body (s0 : Array Value) (b1 : Array Value) (R : Value → Heap → Prop) (h : Heap) : Prop :=
  newK h s0 T.msg_scribe (fun (s_1 : Option Addr) (h : Heap) =>
  newK h b1 T.api_Body (fun (b_2 : Option Addr) (h : Heap) =>
  loadAggK (sizeOfT Tryz.prog T.msg_scribe) h s_1 (fun (v_3 : Array Value) =>
  fldK b_2 1 (fun (a_4 : Addr) =>
  loadAggK (sizeOfT Tryz.prog T.api_Move) h ((some a_4)) (fun (v_5 : Array Value) =>
  callK Tryz.prog .unit F.msg_scribe_move #[(.agg v_3), (.agg v_5)] (fun (v_6 : Unit) (h : Heap) =>
  joinW (fun (s_7 : Int) (h : Heap) =>
  fldK s_1 0 (fun (a_8 : Addr) =>
  loadK .ptr h ((some a_8)) (fun (v_9 : Option Addr) =>
  newSlK h 1 #[(.int .i64 s_7)] T.int (fun (v_10 : Sl) (h : Heap) =>
  callK Tryz.prog (.int .i64) F.codec_Writer_Byte #[(.pointer v_9), (.slice v_10.a v_10.n v_10.c)] (fun (v_11 : Int) (h : Heap) =>
  R (.tuple #[]) h) h))))
  (fun J_12 =>
  fldK b_2 4 (fun (a_13 : Addr) =>
  loadK .bool h ((some a_13)) (fun (v_14 : Bool) =>
  if v_14 = true then
  J_12 1 h
  else
  J_12 0 h)))) h)))))
def msg_scribe_moved.ann : Ann := (.seq .leaf (.seq .leaf (.seq .leaf (.join [(4, (.int .i64))] (.seq .leaf (.cond .leaf .leaf)) .leaf))))
theorem msg_scribe_moved.eq (s0 : Array Value) (b1 : Array Value) (R : Value → Heap → Prop) (h : Heap) : msg_scribe_moved.body s0 b1 R h = evFn Tryz.prog Tryz.f104 msg_scribe_moved.ann [(.agg s0), (.agg b1)] R h := by kernel_rfl
theorem msg_scribe_moved.calls {s0 : Array Value} {b1 : Array Value} {R : Value → Heap → Prop} {h : Heap} (H : msg_scribe_moved.body s0 b1 R h) : HC Tryz.prog F.msg_scribe_moved #[(.agg s0), (.agg b1)] R h :=
  evFn_sound mixed Tryz.func104 (by kernel_rfl) (msg_scribe_moved.eq s0 b1 R h ▸ H)

/-! (zugzwang/msg.scribe).claimed -/
def msg_scribe_claimed.body (s0 : Array Value) (b1 : Array Value) (R : Value → Heap → Prop) (h : Heap) : Prop :=
  newK h s0 T.msg_scribe (fun (s_1 : Option Addr) (h : Heap) =>
  newK h b1 T.api_Body (fun (b_2 : Option Addr) (h : Heap) =>
  fldK s_1 0 (fun (a_3 : Addr) =>
  loadK .ptr h ((some a_3)) (fun (v_4 : Option Addr) =>
  fldK b_2 5 (fun (a_5 : Addr) =>
  loadK (.int .i64) h ((some a_5)) (fun (v_6 : Int) =>
  newSlK h 1 #[(.int .i64 v_6)] T.int (fun (v_7 : Sl) (h : Heap) =>
  callK Tryz.prog (.int .i64) F.codec_Writer_Byte #[(.pointer v_4), (.slice v_7.a v_7.n v_7.c)] (fun (v_8 : Int) (h : Heap) =>
  R (.tuple #[]) h) h)))))))
def msg_scribe_claimed.ann : Ann := (.seq .leaf .leaf)
theorem msg_scribe_claimed.eq (s0 : Array Value) (b1 : Array Value) (R : Value → Heap → Prop) (h : Heap) : msg_scribe_claimed.body s0 b1 R h = evFn Tryz.prog Tryz.f105 msg_scribe_claimed.ann [(.agg s0), (.agg b1)] R h := by kernel_rfl
theorem msg_scribe_claimed.calls {s0 : Array Value} {b1 : Array Value} {R : Value → Heap → Prop} {h : Heap} (H : msg_scribe_claimed.body s0 b1 R h) : HC Tryz.prog F.msg_scribe_claimed #[(.agg s0), (.agg b1)] R h :=
  evFn_sound mixed Tryz.func105 (by kernel_rfl) (msg_scribe_claimed.eq s0 b1 R h ▸ H)

/-! (zugzwang/msg.scribe).plain -/
def msg_scribe_plain.body (s0 : Array Value) (x1 : Array Value) (R : Value → Heap → Prop) (h : Heap) : Prop :=
  newK h s0 T.msg_scribe (fun (s_1 : Option Addr) (h : Heap) =>
  newK h x1 T.api_Body (fun (v_2 : Option Addr) (h : Heap) =>
  R (.tuple #[]) h))
def msg_scribe_plain.ann : Ann := .leaf
theorem msg_scribe_plain.eq (s0 : Array Value) (x1 : Array Value) (R : Value → Heap → Prop) (h : Heap) : msg_scribe_plain.body s0 x1 R h = evFn Tryz.prog Tryz.f106 msg_scribe_plain.ann [(.agg s0), (.agg x1)] R h := by kernel_rfl
theorem msg_scribe_plain.calls {s0 : Array Value} {x1 : Array Value} {R : Value → Heap → Prop} {h : Heap} (H : msg_scribe_plain.body s0 x1 R h) : HC Tryz.prog F.msg_scribe_plain #[(.agg s0), (.agg x1)] R h :=
  evFn_sound mixed Tryz.func106 (by kernel_rfl) (msg_scribe_plain.eq s0 x1 R h ▸ H)

/-! zugzwang/codec.put[zugzwang/api.Tag] -/
def codec_put_api_Tag.body (w0 : Option Addr) (r1 : Array Value) (l2 : Sl) (R : Value → Heap → Prop) (h : Heap) : Prop :=
  newK h r1 T.codec_ruleaapi_Tag (fun (r_1 : Option Addr) (h : Heap) =>
  if w0.isNone = true then
  R (.int .i64 1) h
  else
  derefK w0 (fun (a_2 : Addr) =>
  fldK ((some a_2)) 0 (fun (a_3 : Addr) =>
  fldK ((some a_3)) 0 (fun (a_4 : Addr) =>
  loadK .bool h ((some a_4)) (fun (v_5 : Bool) =>
  if (!v_5) = true then
  R (.int .i64 1) h
  else
  joinW (fun (s_6 : Unit) (h : Heap) =>
  derefK w0 (fun (a_7 : Addr) =>
  fldK ((some a_7)) 0 (fun (a_8 : Addr) =>
  fldK ((some a_8)) 1 (fun (a_9 : Addr) =>
  loadK (.int .i64) h ((some a_9)) (fun (v_10 : Int) =>
  R (.int .i64 v_10) h)))))
  (fun J_11 =>
  loopW (fun X_13 (s_12 : Int) (h : Heap) =>
  if (decide (s_12 < ((l2.n : Int)))) = true then
  idxK l2 s_12 (sizeOfT Tryz.prog T.api_Tag) (fun (a_14 : Addr) =>
  loadAggK (sizeOfT Tryz.prog T.api_Tag) h ((some a_14)) (fun (v_15 : Array Value) =>
  newK h (zerosOf Tryz.prog T.api_Tag) T.api_Tag (fun (x_16 : Option Addr) (h : Heap) =>
  storeAggK (sizeOfT Tryz.prog T.api_Tag) h x_16 v_15 (fun (h : Heap) =>
  derefK w0 (fun (a_17 : Addr) =>
  fldK ((some a_17)) 0 (fun (a_18 : Addr) =>
  callK Tryz.prog .bool F.codec_state_sound #[(.pointer ((some a_18)))] (fun (v_19 : Bool) (h : Heap) =>
  if (!v_19) = true then
  J_11 () h
  else
  joinW (fun (s_20 : Bool) (h : Heap) =>
  if s_20 = true then
  derefK w0 (fun (a_21 : Addr) =>
  fldK ((some a_21)) 0 (fun (a_22 : Addr) =>
  callK Tryz.prog (.int .i64) F.codec_state_spoil #[(.pointer ((some a_22))), (.int .i64 2)] (fun (v_23 : Int) (h : Heap) =>
  R (.int .i64 v_23) h) h))
  else
  fldK r_1 1 (fun (a_24 : Addr) =>
  loadK .any h ((some a_24)) (fun (v_25 : Value) =>
  loadAggK (sizeOfT Tryz.prog T.api_Tag) h x_16 (fun (v_26 : Array Value) =>
  callV Tryz.prog .slice v_25 #[(.agg v_26)] (fun (v_27 : Sl) (h : Heap) =>
  derefK w0 (fun (a_28 : Addr) =>
  fldK ((some a_28)) 2 (fun (a_29 : Addr) =>
  loadK .slice h ((some a_29)) (fun (v_30 : Sl) =>
  if (decide ((IntKind.i64.wrap (((v_30.n : Int)) + ((v_27.n : Int)))) > 65536)) = true then
  derefK w0 (fun (a_31 : Addr) =>
  fldK ((some a_31)) 0 (fun (a_32 : Addr) =>
  callK Tryz.prog (.int .i64) F.codec_state_spoil #[(.pointer ((some a_32))), (.int .i64 3)] (fun (v_33 : Int) (h : Heap) =>
  R (.int .i64 v_33) h) h))
  else
  derefK w0 (fun (a_34 : Addr) =>
  fldK ((some a_34)) 2 (fun (a_35 : Addr) =>
  loadK .slice h ((some a_35)) (fun (v_36 : Sl) =>
  opK Tryz.prog .slice (Builtin.append_ #[T.sl_uint8, T.sl_uint8] T.sl_uint8 #[(.slice v_36.a v_36.n v_36.c), (.slice v_27.a v_27.n v_27.c)]) (fun (v_37 : Sl) (h : Heap) =>
  derefK w0 (fun (a_38 : Addr) =>
  fldK ((some a_38)) 2 (fun (a_39 : Addr) =>
  storeK h ((some a_39)) (.slice v_37.a v_37.n v_37.c) (fun (h : Heap) =>
  X_13 (IntKind.i64.wrap (s_12 + 1)) h)))) h))))))) h))))
  (fun J_40 =>
  fldK r_1 0 (fun (a_41 : Addr) =>
  loadK .any h ((some a_41)) (fun (v_42 : Value) =>
  eqK Tryz.prog (binSem .neq T.func176 (.tmp 32) (.const Value.nilFunc) v_42 Value.nilFunc) (fun (v_43 : Bool) =>
  if v_43 = true then
  fldK r_1 0 (fun (a_44 : Addr) =>
  loadK .any h ((some a_44)) (fun (v_45 : Value) =>
  loadAggK (sizeOfT Tryz.prog T.api_Tag) h x_16 (fun (v_46 : Array Value) =>
  callV Tryz.prog .bool v_45 #[(.agg v_46)] (fun (v_47 : Bool) (h : Heap) =>
  J_40 (!v_47) h) h)))
  else
  J_40 false h))))) h))))))
  else
  J_11 () h) 0 h))))))
def codec_put_api_Tag.ann : Ann := (.seq .leaf (.seq (.seq .leaf (.cond (.seq .leaf .leaf) .leaf)) (.join [] (.seq .leaf (.block (.loop [(22, (.int .i64))] (.seq .leaf (.seq (.cond .leaf .leaf) (.seq (.block (.seq .leaf (.seq (.seq .leaf (.cond .leaf .leaf)) (.seq (.join [(40, .bool)] .leaf (.cond (.seq .leaf .leaf) .leaf)) (.seq .leaf (.seq (.seq .leaf (.cond (.seq .leaf .leaf) .leaf)) .leaf)))))) .leaf)))))) (.seq .leaf .leaf))))
theorem codec_put_api_Tag.eq (w0 : Option Addr) (r1 : Array Value) (l2 : Sl) (R : Value → Heap → Prop) (h : Heap) : codec_put_api_Tag.body w0 r1 l2 R h = evFn Tryz.prog Tryz.f109 codec_put_api_Tag.ann [(.pointer w0), (.agg r1), (.slice l2.a l2.n l2.c)] R h := by kernel_rfl
theorem codec_put_api_Tag.calls {w0 : Option Addr} {r1 : Array Value} {l2 : Sl} {R : Value → Heap → Prop} {h : Heap} (H : codec_put_api_Tag.body w0 r1 l2 R h) : HC Tryz.prog F.codec_put_api_Tag #[(.pointer w0), (.agg r1), (.slice l2.a l2.n l2.c)] R h :=
  evFn_sound mixed Tryz.func109 (by kernel_rfl) (codec_put_api_Tag.eq w0 r1 l2 R h ▸ H)

/-! (*zugzwang/codec.Writer).Tag$1 -/
def codec_Writer_Tag_1.body (t0 : Array Value) (R : Value → Heap → Prop) (h : Heap) : Prop :=
  newK h t0 T.api_Tag (fun (t_1 : Option Addr) (h : Heap) =>
  sliceArrK t_1 32 none none none (sizeOfT Tryz.prog T.uint8) (fun (v_2 : Sl) =>
  R (.slice v_2.a v_2.n v_2.c) h))
def codec_Writer_Tag_1.ann : Ann := (.seq .leaf (.seq .leaf .leaf))
theorem codec_Writer_Tag_1.eq (t0 : Array Value) (R : Value → Heap → Prop) (h : Heap) : codec_Writer_Tag_1.body t0 R h = evFn Tryz.prog Tryz.f110 codec_Writer_Tag_1.ann [(.agg t0)] R h := by kernel_rfl
theorem codec_Writer_Tag_1.calls {t0 : Array Value} {R : Value → Heap → Prop} {h : Heap} (H : codec_Writer_Tag_1.body t0 R h) : HC Tryz.prog F.codec_Writer_Tag_1 #[(.agg t0)] R h :=
  evFn_sound mixed Tryz.func110 (by kernel_rfl) (codec_Writer_Tag_1.eq t0 R h ▸ H)

/-! (*zugzwang/codec.Writer).Tag -/
def codec_Writer_Tag.body (w0 : Option Addr) (l1 : Sl) (R : Value → Heap → Prop) (h : Heap) : Prop :=
  buildK Tryz.prog (Instr.build T.codec_ruleaapi_Tag #[(1, ((Value.func (.func F.codec_Writer_Tag_1) #[] #[])))]) (fun (v_1 : Array Value) =>
  callK Tryz.prog (.int .i64) F.codec_put_api_Tag #[(.pointer w0), (.agg v_1), (.slice l1.a l1.n l1.c)] (fun (v_2 : Int) (h : Heap) =>
  R (.int .i64 v_2) h) h)
def codec_Writer_Tag.ann : Ann := (.seq .leaf (.seq .leaf .leaf))
theorem codec_Writer_Tag.eq (w0 : Option Addr) (l1 : Sl) (R : Value → Heap → Prop) (h : Heap) : codec_Writer_Tag.body w0 l1 R h = evFn Tryz.prog Tryz.f80 codec_Writer_Tag.ann [(.pointer w0), (.slice l1.a l1.n l1.c)] R h := by kernel_rfl
theorem codec_Writer_Tag.calls {w0 : Option Addr} {l1 : Sl} {R : Value → Heap → Prop} {h : Heap} (H : codec_Writer_Tag.body w0 l1 R h) : HC Tryz.prog F.codec_Writer_Tag #[(.pointer w0), (.slice l1.a l1.n l1.c)] R h :=
  evFn_sound mixed Tryz.func80 (by kernel_rfl) (codec_Writer_Tag.eq w0 l1 R h ▸ H)

/-! (zugzwang/msg.scribe).sealed -/
def msg_scribe_sealed.body (s0 : Array Value) (b1 : Array Value) (R : Value → Heap → Prop) (h : Heap) : Prop :=
  newK h s0 T.msg_scribe (fun (s_1 : Option Addr) (h : Heap) =>
  newK h b1 T.api_Body (fun (b_2 : Option Addr) (h : Heap) =>
  fldK s_1 0 (fun (a_3 : Addr) =>
  loadK .ptr h ((some a_3)) (fun (v_4 : Option Addr) =>
  fldK b_2 6 (fun (a_5 : Addr) =>
  loadAggK (sizeOfT Tryz.prog T.api_Tag) h ((some a_5)) (fun (v_6 : Array Value) =>
  opK Tryz.prog .slice (Instr.buildSlice T.sl_api_Tag 1 #[(0, (.agg v_6))]) (fun (v_7 : Sl) (h : Heap) =>
  callK Tryz.prog (.int .i64) F.codec_Writer_Tag #[(.pointer v_4), (.slice v_7.a v_7.n v_7.c)] (fun (v_8 : Int) (h : Heap) =>
  R (.tuple #[]) h) h) h))))))
def msg_scribe_sealed.ann : Ann := (.seq .leaf .leaf)
theorem msg_scribe_sealed.eq (s0 : Array Value) (b1 : Array Value) (R : Value → Heap → Prop) (h : Heap) : msg_scribe_sealed.body s0 b1 R h = evFn Tryz.prog Tryz.f107 msg_scribe_sealed.ann [(.agg s0), (.agg b1)] R h := by kernel_rfl
theorem msg_scribe_sealed.calls {s0 : Array Value} {b1 : Array Value} {R : Value → Heap → Prop} {h : Heap} (H : msg_scribe_sealed.body s0 b1 R h) : HC Tryz.prog F.msg_scribe_sealed #[(.agg s0), (.agg b1)] R h :=
  evFn_sound mixed Tryz.func107 (by kernel_rfl) (msg_scribe_sealed.eq s0 b1 R h ▸ H)

/-! (zugzwang/msg.scribe).opened -/
def msg_scribe_opened.body (s0 : Array Value) (b1 : Array Value) (R : Value → Heap → Prop) (h : Heap) : Prop :=
  newK h s0 T.msg_scribe (fun (s_1 : Option Addr) (h : Heap) =>
  newK h b1 T.api_Body (fun (b_2 : Option Addr) (h : Heap) =>
  loadAggK (sizeOfT Tryz.prog T.msg_scribe) h s_1 (fun (v_3 : Array Value) =>
  fldK b_2 1 (fun (a_4 : Addr) =>
  loadAggK (sizeOfT Tryz.prog T.api_Move) h ((some a_4)) (fun (v_5 : Array Value) =>
  callK Tryz.prog .unit F.msg_scribe_move #[(.agg v_3), (.agg v_5)] (fun (v_6 : Unit) (h : Heap) =>
  fldK s_1 0 (fun (a_7 : Addr) =>
  loadK .ptr h ((some a_7)) (fun (v_8 : Option Addr) =>
  fldK b_2 38 (fun (a_9 : Addr) =>
  loadAggK (sizeOfT Tryz.prog T.api_Tag) h ((some a_9)) (fun (v_10 : Array Value) =>
  opK Tryz.prog .slice (Instr.buildSlice T.sl_api_Tag 1 #[(0, (.agg v_10))]) (fun (v_11 : Sl) (h : Heap) =>
  callK Tryz.prog (.int .i64) F.codec_Writer_Tag #[(.pointer v_8), (.slice v_11.a v_11.n v_11.c)] (fun (v_12 : Int) (h : Heap) =>
  R (.tuple #[]) h) h) h))))) h)))))
def msg_scribe_opened.ann : Ann := (.seq .leaf (.seq .leaf .leaf))
theorem msg_scribe_opened.eq (s0 : Array Value) (b1 : Array Value) (R : Value → Heap → Prop) (h : Heap) : msg_scribe_opened.body s0 b1 R h = evFn Tryz.prog Tryz.f108 msg_scribe_opened.ann [(.agg s0), (.agg b1)] R h := by kernel_rfl
theorem msg_scribe_opened.calls {s0 : Array Value} {b1 : Array Value} {R : Value → Heap → Prop} {h : Heap} (H : msg_scribe_opened.body s0 b1 R h) : HC Tryz.prog F.msg_scribe_opened #[(.agg s0), (.agg b1)] R h :=
  evFn_sound mixed Tryz.func108 (by kernel_rfl) (msg_scribe_opened.eq s0 b1 R h ▸ H)

/-! zugzwang/msg.bodies -/
def msg_bodies.body  (R : Value → Heap → Prop) (h : Heap) : Prop :=
  opK Tryz.prog .map (Instr.makeMap T.map_aapi_Say_func_msg_scribe_api_Body none) (fun (v_1 : Option Nat) (h : Heap) =>
  unitK Tryz.prog (Instr.mapUpdate T.map_aapi_Say_func_msg_scribe_api_Body (.map v_1) (.int .i64 1) ((Value.func (.func F.msg_scribe_moved) #[] #[]))) (fun (h : Heap) =>
  unitK Tryz.prog (Instr.mapUpdate T.map_aapi_Say_func_msg_scribe_api_Body (.map v_1) (.int .i64 2) ((Value.func (.func F.msg_scribe_claimed) #[] #[]))) (fun (h : Heap) =>
  unitK Tryz.prog (Instr.mapUpdate T.map_aapi_Say_func_msg_scribe_api_Body (.map v_1) (.int .i64 3) ((Value.func (.func F.msg_scribe_plain) #[] #[]))) (fun (h : Heap) =>
  unitK Tryz.prog (Instr.mapUpdate T.map_aapi_Say_func_msg_scribe_api_Body (.map v_1) (.int .i64 4) ((Value.func (.func F.msg_scribe_plain) #[] #[]))) (fun (h : Heap) =>
  unitK Tryz.prog (Instr.mapUpdate T.map_aapi_Say_func_msg_scribe_api_Body (.map v_1) (.int .i64 5) ((Value.func (.func F.msg_scribe_sealed) #[] #[]))) (fun (h : Heap) =>
  unitK Tryz.prog (Instr.mapUpdate T.map_aapi_Say_func_msg_scribe_api_Body (.map v_1) (.int .i64 6) ((Value.func (.func F.msg_scribe_plain) #[] #[]))) (fun (h : Heap) =>
  unitK Tryz.prog (Instr.mapUpdate T.map_aapi_Say_func_msg_scribe_api_Body (.map v_1) (.int .i64 7) ((Value.func (.func F.msg_scribe_opened) #[] #[]))) (fun (h : Heap) =>
  R (.map v_1) h) h) h) h) h) h) h) h) h
def msg_bodies.ann : Ann := (.seq .leaf (.seq .leaf .leaf))
theorem msg_bodies.eq  (R : Value → Heap → Prop) (h : Heap) : msg_bodies.body  R h = evFn Tryz.prog Tryz.f79 msg_bodies.ann [] R h := by kernel_rfl
theorem msg_bodies.calls  {R : Value → Heap → Prop} {h : Heap} (H : msg_bodies.body  R h) : HC Tryz.prog F.msg_bodies #[] R h :=
  evFn_sound mixed Tryz.func79 (by kernel_rfl) (msg_bodies.eq  R h ▸ H)

/-! zugzwang/codec.bytes4 -/
def codec_bytes4.body (n0 : Int) (R : Value → Heap → Prop) (h : Heap) : Prop :=
  shiftK 24
  (shiftK 16
  (shiftK 8
  (newSlK h 4 #[(.int .u8 (IntKind.u8.wrap (Int.fdiv n0 (2 ^ min (Int.toNat 24) (IntKind.bits .i64))))), (.int .u8 (IntKind.u8.wrap (Int.fdiv n0 (2 ^ min (Int.toNat 16) (IntKind.bits .i64))))), (.int .u8 (IntKind.u8.wrap (Int.fdiv n0 (2 ^ min (Int.toNat 8) (IntKind.bits .i64))))), (.int .u8 (IntKind.u8.wrap n0))] T.uint8 (fun (v_1 : Sl) (h : Heap) =>
  R (.slice v_1.a v_1.n v_1.c) h))))
def codec_bytes4.ann : Ann := (.seq .leaf (.seq .leaf .leaf))
theorem codec_bytes4.eq (n0 : Int) (R : Value → Heap → Prop) (h : Heap) : codec_bytes4.body n0 R h = evFn Tryz.prog Tryz.f113 codec_bytes4.ann [(.int .i64 n0)] R h := by kernel_rfl
theorem codec_bytes4.calls {n0 : Int} {R : Value → Heap → Prop} {h : Heap} (H : codec_bytes4.body n0 R h) : HC Tryz.prog F.codec_bytes4 #[(.int .i64 n0)] R h :=
  evFn_sound mixed Tryz.func113 (by kernel_rfl) (codec_bytes4.eq n0 R h ▸ H)

/-! (*zugzwang/codec.Writer).Number -/
def codec_Writer_Number.body (w0 : Option Addr) (l1 : Sl) (R : Value → Heap → Prop) (h : Heap) : Prop :=
  callK Tryz.prog .any F.codec_within #[(.int .i64 4294967295)] (fun (v_1 : Value) (h : Heap) =>
  buildK Tryz.prog (Instr.build T.codec_ruleaint #[(0, v_1), (1, ((Value.func (.func F.codec_bytes4) #[] #[])))]) (fun (v_2 : Array Value) =>
  callK Tryz.prog (.int .i64) F.codec_put_int #[(.pointer w0), (.agg v_2), (.slice l1.a l1.n l1.c)] (fun (v_3 : Int) (h : Heap) =>
  R (.int .i64 v_3) h) h)) h
def codec_Writer_Number.ann : Ann := (.seq .leaf (.seq .leaf .leaf))
theorem codec_Writer_Number.eq (w0 : Option Addr) (l1 : Sl) (R : Value → Heap → Prop) (h : Heap) : codec_Writer_Number.body w0 l1 R h = evFn Tryz.prog Tryz.f81 codec_Writer_Number.ann [(.pointer w0), (.slice l1.a l1.n l1.c)] R h := by kernel_rfl
theorem codec_Writer_Number.calls {w0 : Option Addr} {l1 : Sl} {R : Value → Heap → Prop} {h : Heap} (H : codec_Writer_Number.body w0 l1 R h) : HC Tryz.prog F.codec_Writer_Number #[(.pointer w0), (.slice l1.a l1.n l1.c)] R h :=
  evFn_sound mixed Tryz.func81 (by kernel_rfl) (codec_Writer_Number.eq w0 l1 R h ▸ H)

/-! (zugzwang/msg.scribe).entries -/
def msg_scribe_entries.body (s0 : Array Value) (l1 : Sl) (R : Value → Heap → Prop) (h : Heap) : Prop :=
  newK h s0 T.msg_scribe (fun (s_1 : Option Addr) (h : Heap) =>
  callK Tryz.prog .map F.msg_bodies #[] (fun (v_2 : Option Nat) (h : Heap) =>
  loopW (fun X_4 (s_3 : Int) (h : Heap) =>
  if (decide (s_3 < ((l1.n : Int)))) = true then
  idxK l1 s_3 (sizeOfT Tryz.prog T.api_Entry) (fun (a_5 : Addr) =>
  loadAggK (sizeOfT Tryz.prog T.api_Entry) h ((some a_5)) (fun (v_6 : Array Value) =>
  newK h (zerosOf Tryz.prog T.api_Entry) T.api_Entry (fun (e_7 : Option Addr) (h : Heap) =>
  storeAggK (sizeOfT Tryz.prog T.api_Entry) h e_7 v_6 (fun (h : Heap) =>
  fldK s_1 0 (fun (a_8 : Addr) =>
  loadK .ptr h ((some a_8)) (fun (v_9 : Option Addr) =>
  fldK e_7 0 (fun (a_10 : Addr) =>
  loadAggK (sizeOfT Tryz.prog T.api_Tag) h ((some a_10)) (fun (v_11 : Array Value) =>
  opK Tryz.prog .slice (Instr.buildSlice T.sl_api_Tag 1 #[(0, (.agg v_11))]) (fun (v_12 : Sl) (h : Heap) =>
  callK Tryz.prog (.int .i64) F.codec_Writer_Tag #[(.pointer v_9), (.slice v_12.a v_12.n v_12.c)] (fun (v_13 : Int) (h : Heap) =>
  fldK s_1 0 (fun (a_14 : Addr) =>
  loadK .ptr h ((some a_14)) (fun (v_15 : Option Addr) =>
  fldK e_7 32 (fun (a_16 : Addr) =>
  loadK (.int .i64) h ((some a_16)) (fun (v_17 : Int) =>
  newSlK h 1 #[(.int .i64 v_17)] T.int (fun (v_18 : Sl) (h : Heap) =>
  callK Tryz.prog (.int .i64) F.codec_Writer_Number #[(.pointer v_15), (.slice v_18.a v_18.n v_18.c)] (fun (v_19 : Int) (h : Heap) =>
  fldK s_1 0 (fun (a_20 : Addr) =>
  loadK .ptr h ((some a_20)) (fun (v_21 : Option Addr) =>
  fldK e_7 33 (fun (a_22 : Addr) =>
  loadAggK (sizeOfT Tryz.prog T.api_Tag) h ((some a_22)) (fun (v_23 : Array Value) =>
  opK Tryz.prog .slice (Instr.buildSlice T.sl_api_Tag 1 #[(0, (.agg v_23))]) (fun (v_24 : Sl) (h : Heap) =>
  callK Tryz.prog (.int .i64) F.codec_Writer_Tag #[(.pointer v_21), (.slice v_24.a v_24.n v_24.c)] (fun (v_25 : Int) (h : Heap) =>
  fldK s_1 0 (fun (a_26 : Addr) =>
  loadK .ptr h ((some a_26)) (fun (v_27 : Option Addr) =>
  fldK e_7 65 (fun (a_28 : Addr) =>
  fldK ((some a_28)) 0 (fun (a_29 : Addr) =>
  loadK (.int .i64) h ((some a_29)) (fun (v_30 : Int) =>
  newSlK h 1 #[(.int .i64 v_30)] T.int (fun (v_31 : Sl) (h : Heap) =>
  callK Tryz.prog (.int .i64) F.codec_Writer_Byte #[(.pointer v_27), (.slice v_31.a v_31.n v_31.c)] (fun (v_32 : Int) (h : Heap) =>
  fldK e_7 65 (fun (a_33 : Addr) =>
  fldK ((some a_33)) 0 (fun (a_34 : Addr) =>
  loadK (.int .i64) h ((some a_34)) (fun (v_35 : Int) =>
  quietK Tryz.prog .any (Instr.lookup T.map_aapi_Say_func_msg_scribe_api_Body (.map v_2) (.int .i64 v_35) false) (fun (v_36 : Value) =>
  loadAggK (sizeOfT Tryz.prog T.msg_scribe) h s_1 (fun (v_37 : Array Value) =>
  fldK e_7 65 (fun (a_38 : Addr) =>
  loadAggK (sizeOfT Tryz.prog T.api_Body) h ((some a_38)) (fun (v_39 : Array Value) =>
  callV Tryz.prog .unit v_36 #[(.agg v_37), (.agg v_39)] (fun (v_40 : Unit) (h : Heap) =>
  X_4 (IntKind.i64.wrap (s_3 + 1)) h) h)))) h)))) h))))))) h) h))))) h)))))) h) h))))))))
  else
  R (.tuple #[]) h) 0 h) h)
def msg_scribe_entries.ann : Ann := (.seq .leaf (.seq .leaf (.seq .leaf (.block (.loop [(10, (.int .i64))] (.seq .leaf (.seq (.cond .leaf .leaf) (.seq (.block (.seq .leaf (.seq .leaf (.seq .leaf (.seq .leaf (.seq .leaf .leaf)))))) .leaf))))))))
theorem msg_scribe_entries.eq (s0 : Array Value) (l1 : Sl) (R : Value → Heap → Prop) (h : Heap) : msg_scribe_entries.body s0 l1 R h = evFn Tryz.prog Tryz.f67 msg_scribe_entries.ann [(.agg s0), (.slice l1.a l1.n l1.c)] R h := by kernel_rfl
theorem msg_scribe_entries.calls {s0 : Array Value} {l1 : Sl} {R : Value → Heap → Prop} {h : Heap} (H : msg_scribe_entries.body s0 l1 R h) : HC Tryz.prog F.msg_scribe_entries #[(.agg s0), (.slice l1.a l1.n l1.c)] R h :=
  evFn_sound mixed Tryz.func67 (by kernel_rfl) (msg_scribe_entries.eq s0 l1 R h ▸ H)

/-! (*zugzwang/codec.Writer).Out -/
def codec_Writer_Out.body (w0 : Option Addr) (R : Value → Heap → Prop) (h : Heap) : Prop :=
  joinW (fun (s_1 : Bool) (h : Heap) =>
  if s_1 = true then
  R (.tuple #[(.slice none 0 0), (.int .i64 1)]) h
  else
  derefK w0 (fun (a_2 : Addr) =>
  fldK ((some a_2)) 0 (fun (a_3 : Addr) =>
  callK Tryz.prog .bool F.codec_state_sound #[(.pointer ((some a_3)))] (fun (v_4 : Bool) (h : Heap) =>
  if (!v_4) = true then
  derefK w0 (fun (a_5 : Addr) =>
  fldK ((some a_5)) 0 (fun (a_6 : Addr) =>
  fldK ((some a_6)) 1 (fun (a_7 : Addr) =>
  loadK (.int .i64) h ((some a_7)) (fun (v_8 : Int) =>
  R (.tuple #[(.slice none 0 0), (.int .i64 v_8)]) h))))
  else
  derefK w0 (fun (a_9 : Addr) =>
  fldK ((some a_9)) 2 (fun (a_10 : Addr) =>
  loadK .slice h ((some a_10)) (fun (v_11 : Sl) =>
  callK Tryz.prog .slice F.slices_Clone_byte_byte #[(.slice v_11.a v_11.n v_11.c)] (fun (v_12 : Sl) (h : Heap) =>
  R (.tuple #[(.slice v_12.a v_12.n v_12.c), (.int .i64 0)]) h) h)))) h)))
  (fun J_13 =>
  if w0.isNone = true then
  J_13 true h
  else
  derefK w0 (fun (a_14 : Addr) =>
  fldK ((some a_14)) 0 (fun (a_15 : Addr) =>
  fldK ((some a_15)) 0 (fun (a_16 : Addr) =>
  loadK .bool h ((some a_16)) (fun (v_17 : Bool) =>
  J_13 (!v_17) h)))))
def codec_Writer_Out.ann : Ann := (.seq .leaf (.seq (.block (.join [(4, .bool)] .leaf (.cond (.seq .leaf .leaf) (.seq .leaf (.cond (.seq .leaf .leaf) .leaf))))) (.seq .leaf .leaf)))
theorem codec_Writer_Out.eq (w0 : Option Addr) (R : Value → Heap → Prop) (h : Heap) : codec_Writer_Out.body w0 R h = evFn Tryz.prog Tryz.f68 codec_Writer_Out.ann [(.pointer w0)] R h := by kernel_rfl
theorem codec_Writer_Out.calls {w0 : Option Addr} {R : Value → Heap → Prop} {h : Heap} (H : codec_Writer_Out.body w0 R h) : HC Tryz.prog F.codec_Writer_Out #[(.pointer w0)] R h :=
  evFn_sound mixed Tryz.func68 (by kernel_rfl) (codec_Writer_Out.eq w0 R h ▸ H)

/-! zugzwang/msg.PutEntry -/
def msg_PutEntry.body (e0 : Array Value) (R : Value → Heap → Prop) (h : Heap) : Prop :=
  newK h e0 T.api_Entry (fun (e_1 : Option Addr) (h : Heap) =>
  loadAggK (sizeOfT Tryz.prog T.api_Entry) h e_1 (fun (v_2 : Array Value) =>
  callK Tryz.prog .bool F.msg_Entry #[(.agg v_2)] (fun (v_3 : Bool) (h : Heap) =>
  if (!v_3) = true then
  R (.tuple #[(.slice none 0 0), (.int .i64 2)]) h
  else
  callK Tryz.prog .ptr F.codec_New #[] (fun (v_4 : Option Addr) (h : Heap) =>
  buildK Tryz.prog (Instr.build T.msg_scribe #[(0, (.pointer v_4))]) (fun (v_5 : Array Value) =>
  newK h (zerosOf Tryz.prog T.msg_scribe) T.msg_scribe (fun (s_6 : Option Addr) (h : Heap) =>
  storeAggK (sizeOfT Tryz.prog T.msg_scribe) h s_6 v_5 (fun (h : Heap) =>
  loadAggK (sizeOfT Tryz.prog T.msg_scribe) h s_6 (fun (v_7 : Array Value) =>
  loadAggK (sizeOfT Tryz.prog T.api_Entry) h e_1 (fun (v_8 : Array Value) =>
  opK Tryz.prog .slice (Instr.buildSlice T.sl_api_Entry 1 #[(0, (.agg v_8))]) (fun (v_9 : Sl) (h : Heap) =>
  callK Tryz.prog .unit F.msg_scribe_entries #[(.agg v_7), (.slice v_9.a v_9.n v_9.c)] (fun (v_10 : Unit) (h : Heap) =>
  fldK s_6 0 (fun (a_11 : Addr) =>
  loadK .ptr h ((some a_11)) (fun (v_12 : Option Addr) =>
  callK Tryz.prog (Kd.pair .slice (.int .i64)) F.codec_Writer_Out #[(.pointer v_12)] (fun (v_13 : Sl × Int) (h : Heap) =>
  R (.tuple #[(.slice v_13.1.a v_13.1.n v_13.1.c), (.int .i64 v_13.2)]) h) h))) h) h)))))) h) h))
def msg_PutEntry.ann : Ann := (.seq .leaf (.seq (.seq .leaf (.cond (.seq .leaf .leaf) .leaf)) (.seq .leaf (.seq .leaf (.seq .leaf .leaf)))))
theorem msg_PutEntry.eq (e0 : Array Value) (R : Value → Heap → Prop) (h : Heap) : msg_PutEntry.body e0 R h = evFn Tryz.prog Tryz.f55 msg_PutEntry.ann [(.agg e0)] R h := by kernel_rfl
theorem msg_PutEntry.calls {e0 : Array Value} {R : Value → Heap → Prop} {h : Heap} (H : msg_PutEntry.body e0 R h) : HC Tryz.prog F.msg_PutEntry #[(.agg e0)] R h :=
  evFn_sound mixed Tryz.func55 (by kernel_rfl) (msg_PutEntry.eq e0 R h ▸ H)

/-! (zugzwang/chain.smith).link -/
def chain_smith_link.body (s0 : Array Value) (e1 : Array Value) (R : Value → Heap → Prop) (h : Heap) : Prop :=
  newK h s0 T.chain_smith (fun (s_1 : Option Addr) (h : Heap) =>
  newK h e1 T.api_Entry (fun (e_2 : Option Addr) (h : Heap) =>
  newK h (zerosOf Tryz.prog T.api_Tag) T.api_Tag (fun (v_3 : Option Addr) (h : Heap) =>
  loadAggK (sizeOfT Tryz.prog T.api_Entry) h e_2 (fun (v_4 : Array Value) =>
  callK Tryz.prog (Kd.pair .slice (.int .i64)) F.msg_PutEntry #[(.agg v_4)] (fun (v_5 : Sl × Int) (h : Heap) =>
  fldK s_1 0 (fun (a_6 : Addr) =>
  loadK .ptr h ((some a_6)) (fun (v_7 : Option Addr) =>
  newSlK h 4 #[(.int .u8 108), (.int .u8 105), (.int .u8 110), (.int .u8 107)] T.uint8 (fun (v_8 : Sl) (h : Heap) =>
  opK Tryz.prog .slice (convert T.sl_uint8 T.sl_uint8 (.slice v_8.a v_8.n v_8.c)) (fun (v_9 : Sl) (h : Heap) =>
  newSlK h 2 #[(.slice v_9.a v_9.n v_9.c), (.slice v_5.1.a v_5.1.n v_5.1.c)] T.sl_uint8 (fun (v_10 : Sl) (h : Heap) =>
  callK Tryz.prog .agg F.tags_Maker_Sum #[(.pointer v_7), (.slice v_10.a v_10.n v_10.c)] (fun (v_11 : Array Value) (h : Heap) =>
  storeAggK (sizeOfT Tryz.prog T.api_Tag) h v_3 v_11 (fun (h : Heap) =>
  quietK Tryz.prog .agg (Instr.loadAt T.api_Tag (.pointer v_3)) (fun (r_12 : Array Value) =>
  R (.agg r_12) h) h)) h)) h)))) h))))
def chain_smith_link.ann : Ann := (.seq .leaf (.seq .leaf (.seq .leaf .leaf)))
theorem chain_smith_link.eq (s0 : Array Value) (e1 : Array Value) (R : Value → Heap → Prop) (h : Heap) : chain_smith_link.body s0 e1 R h = evFn Tryz.prog Tryz.f40 chain_smith_link.ann [(.agg s0), (.agg e1)] R h := by kernel_rfl
theorem chain_smith_link.calls {s0 : Array Value} {e1 : Array Value} {R : Value → Heap → Prop} {h : Heap} (H : chain_smith_link.body s0 e1 R h) : HC Tryz.prog F.chain_smith_link #[(.agg s0), (.agg e1)] R h :=
  evFn_sound mixed Tryz.func40 (by kernel_rfl) (chain_smith_link.eq s0 e1 R h ▸ H)

/-! (*zugzwang/chain.Chain).Add -/
def chain_Chain_Add.body (c0 : Option Addr) (l1 : Sl) (R : Value → Heap → Prop) (h : Heap) : Prop :=
  callK Tryz.prog .bool F.chain_Chain_made #[(.pointer c0)] (fun (v_1 : Bool) (h : Heap) =>
  if (!v_1) = true then
  R (.int .i64 1) h
  else
  loopW (fun X_3 (s_2 : Int) (h : Heap) =>
  if (decide (s_2 < ((l1.n : Int)))) = true then
  idxK l1 s_2 (sizeOfT Tryz.prog T.api_Entry) (fun (a_4 : Addr) =>
  loadAggK (sizeOfT Tryz.prog T.api_Entry) h ((some a_4)) (fun (v_5 : Array Value) =>
  newK h (zerosOf Tryz.prog T.api_Entry) T.api_Entry (fun (e_6 : Option Addr) (h : Heap) =>
  storeAggK (sizeOfT Tryz.prog T.api_Entry) h e_6 v_5 (fun (h : Heap) =>
  loadAggK (sizeOfT Tryz.prog T.api_Entry) h e_6 (fun (v_7 : Array Value) =>
  callK Tryz.prog (.int .i64) F.chain_Chain_Why #[(.pointer c0), (.agg v_7)] (fun (v_8 : Int) (h : Heap) =>
  if (v_8 != 0) = true then
  R (.int .i64 v_8) h
  else
  derefK c0 (fun (a_9 : Addr) =>
  fldK ((some a_9)) 33 (fun (a_10 : Addr) =>
  loadK .slice h ((some a_10)) (fun (v_11 : Sl) =>
  loadAggK (sizeOfT Tryz.prog T.api_Entry) h e_6 (fun (v_12 : Array Value) =>
  opK Tryz.prog .slice (Instr.buildSlice T.sl_api_Entry 1 #[(0, (.agg v_12))]) (fun (v_13 : Sl) (h : Heap) =>
  opK Tryz.prog .slice (Builtin.append_ #[T.sl_api_Entry, T.sl_api_Entry] T.sl_api_Entry #[(.slice v_11.a v_11.n v_11.c), (.slice v_13.a v_13.n v_13.c)]) (fun (v_14 : Sl) (h : Heap) =>
  derefK c0 (fun (a_15 : Addr) =>
  fldK ((some a_15)) 33 (fun (a_16 : Addr) =>
  storeK h ((some a_16)) (.slice v_14.a v_14.n v_14.c) (fun (h : Heap) =>
  derefK c0 (fun (a_17 : Addr) =>
  fldK ((some a_17)) 34 (fun (a_18 : Addr) =>
  derefK c0 (fun (a_19 : Addr) =>
  fldK ((some a_19)) 0 (fun (a_20 : Addr) =>
  loadK .slice h ((some a_18)) (fun (v_21 : Sl) =>
  loadAggK (sizeOfT Tryz.prog T.chain_smith) h ((some a_20)) (fun (v_22 : Array Value) =>
  loadAggK (sizeOfT Tryz.prog T.api_Entry) h e_6 (fun (v_23 : Array Value) =>
  callK Tryz.prog .agg F.chain_smith_link #[(.agg v_22), (.agg v_23)] (fun (v_24 : Array Value) (h : Heap) =>
  stillK .slice h ((some a_18)) v_21 ∧
  opK Tryz.prog .slice (Instr.buildSlice T.sl_api_Tag 1 #[(0, (.agg v_24))]) (fun (v_25 : Sl) (h : Heap) =>
  opK Tryz.prog .slice (Builtin.append_ #[T.sl_api_Tag, T.sl_api_Tag] T.sl_api_Tag #[(.slice v_21.a v_21.n v_21.c), (.slice v_25.a v_25.n v_25.c)]) (fun (v_26 : Sl) (h : Heap) =>
  derefK c0 (fun (a_27 : Addr) =>
  fldK ((some a_27)) 34 (fun (a_28 : Addr) =>
  storeK h ((some a_28)) (.slice v_26.a v_26.n v_26.c) (fun (h : Heap) =>
  X_3 (IntKind.i64.wrap (s_2 + 1)) h)))) h) h) h))))))))))) h) h))))) h)))))
  else
  R (.int .i64 0) h) 0 h) h
def chain_Chain_Add.ann : Ann := (.seq .leaf (.seq (.seq .leaf (.cond (.seq .leaf .leaf) .leaf)) (.seq (.seq .leaf (.block (.loop [(13, (.int .i64))] (.seq .leaf (.seq (.cond .leaf .leaf) (.seq (.block (.seq .leaf (.seq (.seq .leaf (.seq .leaf (.cond (.seq .leaf .leaf) .leaf))) (.seq (.any (.loc 0 (.loc 1 (.loc 2 (.loc 3 (.st 4 1920 (.st 5 1984 (.last 6 (.last 7 (.loc 8 (.loc 9 (.last 10 .done)))))))))))) (.any (.loc 0 (.loc 1 (.loc 2 (.loc 3 (.loc 5 (.loc 6 (.loc 7 (.st 4 61440 (.st 8 64512 (.st 9 64512 (.last 10 (.last 11 (.last 12 (.loc 13 (.loc 14 (.last 15 .done))))))))))))))))))))) .leaf)))))) (.seq .leaf .leaf))))
theorem chain_Chain_Add.eq (c0 : Option Addr) (l1 : Sl) (R : Value → Heap → Prop) (h : Heap) : chain_Chain_Add.body c0 l1 R h = evFn Tryz.prog Tryz.f12 chain_Chain_Add.ann [(.pointer c0), (.slice l1.a l1.n l1.c)] R h := by kernel_rfl
theorem chain_Chain_Add.calls {c0 : Option Addr} {l1 : Sl} {R : Value → Heap → Prop} {h : Heap} (H : chain_Chain_Add.body c0 l1 R h) : HC Tryz.prog F.chain_Chain_Add #[(.pointer c0), (.slice l1.a l1.n l1.c)] R h :=
  evFn_sound mixed Tryz.func12 (by kernel_rfl) (chain_Chain_Add.eq c0 l1 R h ▸ H)

/-! zugzwang/tags.New -/
def tags_New.body (real0 : Bool) (seed1 : Sl) (R : Value → Heap → Prop) (h : Heap) : Prop :=
  opK Tryz.prog .map (Instr.makeMap T.map_atags_thing_int none) (fun (v_1 : Option Nat) (h : Heap) =>
  buildK Tryz.prog (Instr.build T.tags_book #[(0, (.map v_1))]) (fun (v_2 : Array Value) =>
  callK Tryz.prog .slice F.slices_Clone_byte_byte #[(.slice seed1.a seed1.n seed1.c)] (fun (v_3 : Sl) (h : Heap) =>
  buildK Tryz.prog (Instr.build T.tags_Maker #[(0, (.agg v_2)), (1, (.bool real0)), (2, (.slice v_3.a v_3.n v_3.c))]) (fun (v_4 : Array Value) =>
  newK h v_4 T.tags_Maker (fun (v_5 : Option Addr) (h : Heap) =>
  R (.pointer v_5) h))) h)) h
def tags_New.ann : Ann := (.seq .leaf (.seq .leaf .leaf))
theorem tags_New.eq (real0 : Bool) (seed1 : Sl) (R : Value → Heap → Prop) (h : Heap) : tags_New.body real0 seed1 R h = evFn Tryz.prog Tryz.f20 tags_New.ann [(.bool real0), (.slice seed1.a seed1.n seed1.c)] R h := by kernel_rfl
theorem tags_New.calls {real0 : Bool} {seed1 : Sl} {R : Value → Heap → Prop} {h : Heap} (H : tags_New.body real0 seed1 R h) : HC Tryz.prog F.tags_New #[(.bool real0), (.slice seed1.a seed1.n seed1.c)] R h :=
  evFn_sound mixed Tryz.func20 (by kernel_rfl) (tags_New.eq real0 seed1 R h ▸ H)

/-! maps.Clone[map[zugzwang/tags.thing]int,zugzwang/tags.thing,int] -/
def maps_Clone_map_tags_thing_int_tags_thing_int.body (m0 : Option Nat) (R : Value → Heap → Prop) (h : Heap) : Prop :=
  if m0.isNone = true then
  R (.map none) h
  else
  opK Tryz.prog .any (Instr.makeInterface T.map_atags_thing_int (.map m0)) (fun (v_1 : Value) (h : Heap) =>
  externK Tryz.prog .any F.maps_clone #[v_1] (fun (v_2 : Value) (h : Heap) =>
  opK Tryz.prog .map (Instr.typeAssert v_2 T.interface20 T.map_atags_thing_int false) (fun (v_3 : Option Nat) (h : Heap) =>
  R (.map v_3) h) h) h) h
def maps_Clone_map_tags_thing_int_tags_thing_int.ann : Ann := (.seq .leaf (.seq (.seq .leaf (.cond (.seq .leaf .leaf) .leaf)) (.seq .leaf .leaf)))
theorem maps_Clone_map_tags_thing_int_tags_thing_int.eq (m0 : Option Nat) (R : Value → Heap → Prop) (h : Heap) : maps_Clone_map_tags_thing_int_tags_thing_int.body m0 R h = evFn Tryz.prog Tryz.f59 maps_Clone_map_tags_thing_int_tags_thing_int.ann [(.map m0)] R h := by kernel_rfl
theorem maps_Clone_map_tags_thing_int_tags_thing_int.calls {m0 : Option Nat} {R : Value → Heap → Prop} {h : Heap} (H : maps_Clone_map_tags_thing_int_tags_thing_int.body m0 R h) : HC Tryz.prog F.maps_Clone_map_tags_thing_int_tags_thing_int #[(.map m0)] R h :=
  evFn_sound mixed Tryz.func59 (by kernel_rfl) (maps_Clone_map_tags_thing_int_tags_thing_int.eq m0 R h ▸ H)

/-! (*zugzwang/tags.Maker).Copy -/
def tags_Maker_Copy.body (m0 : Option Addr) (R : Value → Heap → Prop) (h : Heap) : Prop :=
  callK Tryz.prog .bool F.tags_Maker_there #[(.pointer m0)] (fun (v_1 : Bool) (h : Heap) =>
  if (!v_1) = true then
  R (.pointer none) h
  else
  derefK m0 (fun (a_2 : Addr) =>
  fldK ((some a_2)) 0 (fun (a_3 : Addr) =>
  fldK ((some a_3)) 0 (fun (a_4 : Addr) =>
  derefK m0 (fun (a_5 : Addr) =>
  fldK ((some a_5)) 1 (fun (a_6 : Addr) =>
  derefK m0 (fun (a_7 : Addr) =>
  fldK ((some a_7)) 2 (fun (a_8 : Addr) =>
  loadK .map h ((some a_4)) (fun (v_9 : Option Nat) =>
  loadK .bool h ((some a_6)) (fun (v_10 : Bool) =>
  loadK .slice h ((some a_8)) (fun (v_11 : Sl) =>
  callK Tryz.prog .map F.maps_Clone_map_tags_thing_int_tags_thing_int #[(.map v_9)] (fun (v_12 : Option Nat) (h : Heap) =>
  stillK .slice h ((some a_8)) v_11 ∧
  stillK .bool h ((some a_6)) v_10 ∧
  buildK Tryz.prog (Instr.build T.tags_book #[(0, (.map v_12))]) (fun (v_13 : Array Value) =>
  callK Tryz.prog .slice F.slices_Clone_byte_byte #[(.slice v_11.a v_11.n v_11.c)] (fun (v_14 : Sl) (h : Heap) =>
  stillK .bool h ((some a_6)) v_10 ∧
  buildK Tryz.prog (Instr.build T.tags_Maker #[(0, (.agg v_13)), (1, (.bool v_10)), (2, (.slice v_14.a v_14.n v_14.c))]) (fun (v_15 : Array Value) =>
  newK h v_15 T.tags_Maker (fun (v_16 : Option Addr) (h : Heap) =>
  R (.pointer v_16) h))) h)) h))))))))))) h
def tags_Maker_Copy.ann : Ann := (.seq .leaf (.seq (.seq .leaf (.cond (.seq .leaf .leaf) .leaf)) (.seq (.any (.loc 0 (.loc 1 (.loc 2 (.loc 3 (.loc 7 (.loc 8 (.loc 9 (.loc 11 (.loc 12 (.loc 13 (.st 4 491616 (.st 10 458752 (.st 14 491520 (.last 5 (.loc 6 (.last 15 (.loc 16 (.last 17 (.loc 18 .done)))))))))))))))))))) .leaf)))
theorem tags_Maker_Copy.eq (m0 : Option Addr) (R : Value → Heap → Prop) (h : Heap) : tags_Maker_Copy.body m0 R h = evFn Tryz.prog Tryz.f46 tags_Maker_Copy.ann [(.pointer m0)] R h := by kernel_rfl
theorem tags_Maker_Copy.calls {m0 : Option Addr} {R : Value → Heap → Prop} {h : Heap} (H : tags_Maker_Copy.body m0 R h) : HC Tryz.prog F.tags_Maker_Copy #[(.pointer m0)] R h :=
  evFn_sound mixed Tryz.func46 (by kernel_rfl) (tags_Maker_Copy.eq m0 R h ▸ H)

/-! zugzwang/chain.New -/
def chain_New.body (m0 : Option Addr) (game1 : Array Value) (R : Value → Heap → Prop) (h : Heap) : Prop :=
  newK h game1 T.api_Tag (fun (game_1 : Option Addr) (h : Heap) =>
  callK Tryz.prog .ptr F.tags_Maker_Copy #[(.pointer m0)] (fun (v_2 : Option Addr) (h : Heap) =>
  if v_2.isNone = true then
  R (.tuple #[(.pointer none), (.int .i64 1)]) h
  else
  loadAggK (sizeOfT Tryz.prog T.api_Tag) h game_1 (fun (v_3 : Array Value) =>
  buildK Tryz.prog (Instr.build T.chain_smith #[(0, (.pointer m0)), (1, (.agg v_3))]) (fun (v_4 : Array Value) =>
  buildK Tryz.prog (Instr.build T.chain_Chain #[(0, (.agg v_4))]) (fun (v_5 : Array Value) =>
  newK h v_5 T.chain_Chain (fun (v_6 : Option Addr) (h : Heap) =>
  R (.tuple #[(.pointer v_6), (.int .i64 0)]) h))))) h)
def chain_New.ann : Ann := (.seq .leaf (.seq (.seq .leaf (.cond (.seq .leaf .leaf) .leaf)) (.seq .leaf .leaf)))
theorem chain_New.eq (m0 : Option Addr) (game1 : Array Value) (R : Value → Heap → Prop) (h : Heap) : chain_New.body m0 game1 R h = evFn Tryz.prog Tryz.f21 chain_New.ann [(.pointer m0), (.agg game1)] R h := by kernel_rfl
theorem chain_New.calls {m0 : Option Addr} {game1 : Array Value} {R : Value → Heap → Prop} {h : Heap} (H : chain_New.body m0 game1 R h) : HC Tryz.prog F.chain_New #[(.pointer m0), (.agg game1)] R h :=
  evFn_sound mixed Tryz.func21 (by kernel_rfl) (chain_New.eq m0 game1 R h ▸ H)

/-! zugzwang/zugzwanglaw20.awake -/
def law20_awake.body  (R : Value → Heap → Prop) (h : Heap) : Prop :=
  callK Tryz.prog .ptr F.tags_New #[(.bool false), (.slice none 0 0)] (fun (v_1 : Option Addr) (h : Heap) =>
  buildK Tryz.prog (Instr.build T.api_Tag #[]) (fun (v_2 : Array Value) =>
  callK Tryz.prog (Kd.pair .ptr (.int .i64)) F.chain_New #[(.pointer v_1), (.agg v_2)] (fun (v_3 : Option Addr × Int) (h : Heap) =>
  if (v_3.2 != 0) = true then
  R (.bool false) h
  else
  buildK Tryz.prog (Instr.build T.api_Body #[(0, (.int .i64 4))]) (fun (v_4 : Array Value) =>
  callK Tryz.prog (Kd.pair .agg (.int .i64)) F.chain_Chain_Next #[(.pointer v_3.1), (.agg v_4)] (fun (v_5 : Array Value × Int) (h : Heap) =>
  newK h (zerosOf Tryz.prog T.api_Entry) T.api_Entry (fun (x_6 : Option Addr) (h : Heap) =>
  storeAggK (sizeOfT Tryz.prog T.api_Entry) h x_6 v_5.1 (fun (h : Heap) =>
  joinW (fun (s_7 : Unit) (h : Heap) =>
  loadAggK (sizeOfT Tryz.prog T.api_Entry) h x_6 (fun (v_8 : Array Value) =>
  newK h (zerosOf Tryz.prog T.api_Entry) T.api_Entry (fun (y_9 : Option Addr) (h : Heap) =>
  storeAggK (sizeOfT Tryz.prog T.api_Entry) h y_9 v_8 (fun (h : Heap) =>
  fldK y_9 65 (fun (a_10 : Addr) =>
  fldK ((some a_10)) 0 (fun (a_11 : Addr) =>
  storeK h ((some a_11)) (.int .i64 3) (fun (h : Heap) =>
  callK Tryz.prog (.int .i64) F.chain_Chain_Len #[(.pointer v_3.1)] (fun (v_12 : Int) (h : Heap) =>
  if (v_12 == 1) = true then
  loadAggK (sizeOfT Tryz.prog T.api_Entry) h x_6 (fun (v_13 : Array Value) =>
  opK Tryz.prog .slice (Instr.buildSlice T.sl_api_Entry 1 #[(0, (.agg v_13))]) (fun (v_14 : Sl) (h : Heap) =>
  callK Tryz.prog (.int .i64) F.chain_Chain_Add #[(.pointer v_3.1), (.slice v_14.a v_14.n v_14.c)] (fun (v_15 : Int) (h : Heap) =>
  if (v_15 == 12) = true then
  loadAggK (sizeOfT Tryz.prog T.api_Entry) h y_9 (fun (v_16 : Array Value) =>
  opK Tryz.prog .slice (Instr.buildSlice T.sl_api_Entry 1 #[(0, (.agg v_16))]) (fun (v_17 : Sl) (h : Heap) =>
  callK Tryz.prog (.int .i64) F.chain_Chain_Add #[(.pointer v_3.1), (.slice v_17.a v_17.n v_17.c)] (fun (v_18 : Int) (h : Heap) =>
  if (v_18 == 15) = true then
  callK Tryz.prog (.int .i64) F.chain_Chain_Len #[(.pointer v_3.1)] (fun (v_19 : Int) (h : Heap) =>
  R (.bool (v_19 == 1)) h) h
  else
  R (.bool false) h) h) h)
  else
  R (.bool false) h) h) h)
  else
  R (.bool false) h) h)))))))
  (fun J_20 =>
  if (v_5.2 != 0) = true then
  R (.bool false) h
  else
  fldK x_6 32 (fun (a_21 : Addr) =>
  loadK (.int .i64) h ((some a_21)) (fun (v_22 : Int) =>
  if (v_22 != 0) = true then
  R (.bool false) h
  else
  fldK x_6 33 (fun (a_23 : Addr) =>
  loadAggK (sizeOfT Tryz.prog T.api_Tag) h ((some a_23)) (fun (v_24 : Array Value) =>
  ((newSlK h 4 #[(.int .u8 114), (.int .u8 111), (.int .u8 111), (.int .u8 116)] T.uint8 (fun (v_25 : Sl) (h : Heap) =>
  ((opK Tryz.prog .slice (convert T.sl_uint8 T.sl_uint8 (.slice v_25.a v_25.n v_25.c)) (fun (v_26 : Sl) (h : Heap) =>
  opK Tryz.prog .slice (Instr.makeSlice T.sl_uint8 (.int .i64 32) (.int .i64 32)) (fun (v_27 : Sl) (h : Heap) =>
  newSlK h 2 #[(.slice v_26.a v_26.n v_26.c), (.slice v_27.a v_27.n v_27.c)] T.sl_uint8 (fun (v_28 : Sl) (h : Heap) =>
  callK Tryz.prog .agg F.tags_Maker_Sum #[(.pointer v_1), (.slice v_28.a v_28.n v_28.c)] (fun (v_29 : Array Value) (h : Heap) =>
  stillAggK (sizeOfT Tryz.prog T.api_Tag) h ((some a_23)) v_24 ∧
  eqK Tryz.prog (binSem .neq T.api_Tag (.tmp 31) (.tmp 37) (.agg v_24) (.agg v_29)) (fun (v_30 : Bool) =>
  if v_30 = true then
  R (.bool false) h
  else
  loadAggK (sizeOfT Tryz.prog T.api_Entry) h x_6 (fun (v_31 : Array Value) =>
  opK Tryz.prog .slice (Instr.buildSlice T.sl_api_Entry 1 #[(0, (.agg v_31))]) (fun (v_32 : Sl) (h : Heap) =>
  callK Tryz.prog (.int .i64) F.chain_Chain_Add #[(.pointer v_3.1), (.slice v_32.a v_32.n v_32.c)] (fun (v_33 : Int) (h : Heap) =>
  if (v_33 != 0) = true then
  R (.bool false) h
  else
  J_20 () h) h) h))) h)) h) h) ∧
  (opK Tryz.prog .slice (Instr.makeSlice T.sl_uint8 (.int .i64 32) (.int .i64 32)) (fun (v_34 : Sl) (h : Heap) =>
  opK Tryz.prog .slice (convert T.sl_uint8 T.sl_uint8 (.slice v_25.a v_25.n v_25.c)) (fun (v_35 : Sl) (h : Heap) =>
  newSlK h 2 #[(.slice v_35.a v_35.n v_35.c), (.slice v_34.a v_34.n v_34.c)] T.sl_uint8 (fun (v_36 : Sl) (h : Heap) =>
  callK Tryz.prog .agg F.tags_Maker_Sum #[(.pointer v_1), (.slice v_36.a v_36.n v_36.c)] (fun (v_37 : Array Value) (h : Heap) =>
  stillAggK (sizeOfT Tryz.prog T.api_Tag) h ((some a_23)) v_24 ∧
  eqK Tryz.prog (binSem .neq T.api_Tag (.tmp 31) (.tmp 37) (.agg v_24) (.agg v_37)) (fun (v_38 : Bool) =>
  if v_38 = true then
  R (.bool false) h
  else
  loadAggK (sizeOfT Tryz.prog T.api_Entry) h x_6 (fun (v_39 : Array Value) =>
  opK Tryz.prog .slice (Instr.buildSlice T.sl_api_Entry 1 #[(0, (.agg v_39))]) (fun (v_40 : Sl) (h : Heap) =>
  callK Tryz.prog (.int .i64) F.chain_Chain_Add #[(.pointer v_3.1), (.slice v_40.a v_40.n v_40.c)] (fun (v_41 : Int) (h : Heap) =>
  if (v_41 != 0) = true then
  R (.bool false) h
  else
  J_20 () h) h) h))) h)) h) h)))) ∧
  (opK Tryz.prog .slice (Instr.makeSlice T.sl_uint8 (.int .i64 32) (.int .i64 32)) (fun (v_42 : Sl) (h : Heap) =>
  newSlK h 4 #[(.int .u8 114), (.int .u8 111), (.int .u8 111), (.int .u8 116)] T.uint8 (fun (v_43 : Sl) (h : Heap) =>
  opK Tryz.prog .slice (convert T.sl_uint8 T.sl_uint8 (.slice v_43.a v_43.n v_43.c)) (fun (v_44 : Sl) (h : Heap) =>
  newSlK h 2 #[(.slice v_44.a v_44.n v_44.c), (.slice v_42.a v_42.n v_42.c)] T.sl_uint8 (fun (v_45 : Sl) (h : Heap) =>
  callK Tryz.prog .agg F.tags_Maker_Sum #[(.pointer v_1), (.slice v_45.a v_45.n v_45.c)] (fun (v_46 : Array Value) (h : Heap) =>
  stillAggK (sizeOfT Tryz.prog T.api_Tag) h ((some a_23)) v_24 ∧
  eqK Tryz.prog (binSem .neq T.api_Tag (.tmp 31) (.tmp 37) (.agg v_24) (.agg v_46)) (fun (v_47 : Bool) =>
  if v_47 = true then
  R (.bool false) h
  else
  loadAggK (sizeOfT Tryz.prog T.api_Entry) h x_6 (fun (v_48 : Array Value) =>
  opK Tryz.prog .slice (Instr.buildSlice T.sl_api_Entry 1 #[(0, (.agg v_48))]) (fun (v_49 : Sl) (h : Heap) =>
  callK Tryz.prog (.int .i64) F.chain_Chain_Add #[(.pointer v_3.1), (.slice v_49.a v_49.n v_49.c)] (fun (v_50 : Int) (h : Heap) =>
  if (v_50 != 0) = true then
  R (.bool false) h
  else
  J_20 () h) h) h))) h)) h)) h)))))))))) h)) h)) h
def law20_awake.ann : Ann := (.seq .leaf (.seq .leaf (.seq .leaf (.seq (.seq .leaf (.cond (.seq .leaf .leaf) .leaf)) (.seq .leaf (.join [] (.seq (.any (.loc 0 (.loc 1 (.loc 2 (.locA 3 (.loc 4 (.loc 5 (.loc 6 (.loc 7 (.loc 8 (.loc 9 (.loc 10 (.loc 11 (.loc 12 (.loc 13 (.loc 14 (.loc 15 (.loc 16 (.loc 17 (.loc 18 (.loc 19 (.loc 20 (.loc 21 (.loc 22 (.loc 23 (.loc 24 .done))))))))))))))))))))) (.st 4 33554400 (.loc 5 (.loc 6 (.loc 7 (.locA 8 (.loc 9 (.loc 10 (.loc 11 (.loc 12 (.loc 13 (.loc 14 (.loc 15 (.loc 16 (.loc 17 (.loc 18 (.loc 19 (.loc 20 (.loc 21 (.loc 22 (.loc 23 (.loc 24 .done)))))))))))))))) (.loc 10 (.st 9 33488896 (.alt 11 (.alt 12 (.last 13 (.last 14 (.last 15 (.loc 16 (.loc 17 (.loc 18 (.locA 19 (.loc 20 (.loc 21 (.loc 22 (.loc 23 (.loc 24 .done))))) (.st 20 31457280 (.last 21 (.last 22 (.loc 23 (.loc 24 .done)))))))))))) (.last 13 (.last 12 (.last 14 (.last 15 (.loc 16 (.loc 17 (.loc 18 (.locA 19 (.loc 20 (.loc 21 (.loc 22 (.loc 23 (.loc 24 .done))))) (.st 20 31457280 (.last 21 (.last 22 (.loc 23 (.loc 24 .done)))))))))))))) (.last 13 (.last 11 (.last 12 (.last 14 (.last 15 (.loc 16 (.loc 17 (.loc 18 (.locA 19 (.loc 20 (.loc 21 (.loc 22 (.loc 23 (.loc 24 .done))))) (.st 20 31457280 (.last 21 (.last 22 (.loc 23 (.loc 24 .done))))))))))))))))))))))))))) (.cond (.seq .leaf .leaf) .leaf)) (.seq .leaf (.seq .leaf (.seq .leaf .leaf)))))))))
theorem law20_awake.eq  (R : Value → Heap → Prop) (h : Heap) : law20_awake.body  R h = evFn Tryz.prog Tryz.f4 law20_awake.ann [] R h := by kernel_rfl
theorem law20_awake.calls  {R : Value → Heap → Prop} {h : Heap} (H : law20_awake.body  R h) : HC Tryz.prog F.law20_awake #[] R h :=
  evFn_sound mixed Tryz.func4 (by kernel_rfl) (law20_awake.eq  R h ▸ H)

/-! zugzwang/zugzwanglaw20.of -/
def law20_of.body (real0 : Bool) (game1 : Array Value) (R : Value → Heap → Prop) (h : Heap) : Prop :=
  newK h game1 T.api_Tag (fun (game_1 : Option Addr) (h : Heap) =>
  loadAggK (sizeOfT Tryz.prog T.api_Tag) h game_1 (fun (v_2 : Array Value) =>
  callK Tryz.prog .ptr F.tags_New #[(.bool real0), (.slice none 0 0)] (fun (v_3 : Option Addr) (h : Heap) =>
  stillAggK (sizeOfT Tryz.prog T.api_Tag) h game_1 v_2 ∧
  callK Tryz.prog (Kd.pair .ptr (.int .i64)) F.chain_New #[(.pointer v_3), (.agg v_2)] (fun (v_4 : Option Addr × Int) (h : Heap) =>
  R (.pointer v_4.1) h) h) h))
def law20_of.ann : Ann := (.seq .leaf (.seq (.any (.loc 0 (.st 2 504 (.last 1 (.last 3 (.loc 4 (.loc 5 (.loc 6 (.loc 7 (.loc 8 .done)))))))))) (.seq .leaf .leaf)))
theorem law20_of.eq (real0 : Bool) (game1 : Array Value) (R : Value → Heap → Prop) (h : Heap) : law20_of.body real0 game1 R h = evFn Tryz.prog Tryz.f5 law20_of.ann [(.bool real0), (.agg game1)] R h := by kernel_rfl
theorem law20_of.calls {real0 : Bool} {game1 : Array Value} {R : Value → Heap → Prop} {h : Heap} (H : law20_of.body real0 game1 R h) : HC Tryz.prog F.law20_of #[(.bool real0), (.agg game1)] R h :=
  evFn_sound mixed Tryz.func5 (by kernel_rfl) (law20_of.eq real0 game1 R h ▸ H)

/-! zugzwang/zugzwangref18.move -/
def ref18_move.body (m0 : Array Value) (R : Value → Heap → Prop) (h : Heap) : Prop :=
  newK h m0 T.api_Move (fun (m_1 : Option Addr) (h : Heap) =>
  fldK m_1 0 (fun (a_2 : Addr) =>
  loadK (.int .i64) h ((some a_2)) (fun (v_3 : Int) =>
  if (decide (v_3 ≥ 0)) = true then
  fldK m_1 0 (fun (a_4 : Addr) =>
  loadK (.int .i64) h ((some a_4)) (fun (v_5 : Int) =>
  if (decide (v_5 < 64)) = true then
  fldK m_1 1 (fun (a_6 : Addr) =>
  loadK (.int .i64) h ((some a_6)) (fun (v_7 : Int) =>
  if (decide (v_7 ≥ 0)) = true then
  fldK m_1 1 (fun (a_8 : Addr) =>
  loadK (.int .i64) h ((some a_8)) (fun (v_9 : Int) =>
  if (decide (v_9 < 64)) = true then
  fldK m_1 2 (fun (a_10 : Addr) =>
  loadK (.int .i64) h ((some a_10)) (fun (v_11 : Int) =>
  if (v_11 == 0) = true then
  R (.bool true) h
  else
  fldK m_1 2 (fun (a_12 : Addr) =>
  loadK (.int .i64) h ((some a_12)) (fun (v_13 : Int) =>
  if (decide (v_13 ≥ 2)) = true then
  fldK m_1 2 (fun (a_14 : Addr) =>
  loadK (.int .i64) h ((some a_14)) (fun (v_15 : Int) =>
  R (.bool (decide (v_15 ≤ 5))) h))
  else
  R (.bool false) h))))
  else
  R (.bool false) h))
  else
  R (.bool false) h))
  else
  R (.bool false) h))
  else
  R (.bool false) h)))
def ref18_move.ann : Ann := (.seq .leaf (.seq .leaf .leaf))
theorem ref18_move.eq (m0 : Array Value) (R : Value → Heap → Prop) (h : Heap) : ref18_move.body m0 R h = evFn Tryz.prog Tryz.f53 ref18_move.ann [(.agg m0)] R h := by kernel_rfl
theorem ref18_move.calls {m0 : Array Value} {R : Value → Heap → Prop} {h : Heap} (H : ref18_move.body m0 R h) : HC Tryz.prog F.ref18_move #[(.agg m0)] R h :=
  evFn_sound mixed Tryz.func53 (by kernel_rfl) (ref18_move.eq m0 R h ▸ H)

/-! zugzwang/zugzwangref18.Body -/
def ref18_Body.body (b0 : Array Value) (R : Value → Heap → Prop) (h : Heap) : Prop :=
  newK h b0 T.api_Body (fun (b_1 : Option Addr) (h : Heap) =>
  fldK b_1 0 (fun (a_2 : Addr) =>
  loadK (.int .i64) h ((some a_2)) (fun (v_3 : Int) =>
  buildK Tryz.prog (Instr.build T.api_Body #[(0, (.int .i64 v_3))]) (fun (v_4 : Array Value) =>
  newK h (zerosOf Tryz.prog T.api_Body) T.api_Body (fun (has_5 : Option Addr) (h : Heap) =>
  storeAggK (sizeOfT Tryz.prog T.api_Body) h has_5 v_4 (fun (h : Heap) =>
  joinW (fun (s_6 : Unit) (h : Heap) =>
  loadAggK (sizeOfT Tryz.prog T.api_Body) h has_5 (fun (v_7 : Array Value) =>
  loadAggK (sizeOfT Tryz.prog T.api_Body) h b_1 (fun (v_8 : Array Value) =>
  eqK Tryz.prog (binSem .eql T.api_Body (.tmp 47) (.tmp 48) (.agg v_7) (.agg v_8)) (fun (v_9 : Bool) =>
  if v_9 = true then
  fldK b_1 0 (fun (a_10 : Addr) =>
  loadK (.int .i64) h ((some a_10)) (fun (v_11 : Int) =>
  if (v_11 != 1) = true then
  fldK b_1 0 (fun (a_12 : Addr) =>
  loadK (.int .i64) h ((some a_12)) (fun (v_13 : Int) =>
  if (v_13 != 7) = true then
  R (.bool true) h
  else
  fldK b_1 1 (fun (a_14 : Addr) =>
  loadAggK (sizeOfT Tryz.prog T.api_Move) h ((some a_14)) (fun (v_15 : Array Value) =>
  callK Tryz.prog .bool F.ref18_move #[(.agg v_15)] (fun (v_16 : Bool) (h : Heap) =>
  R (.bool v_16) h) h))))
  else
  fldK b_1 1 (fun (a_17 : Addr) =>
  loadAggK (sizeOfT Tryz.prog T.api_Move) h ((some a_17)) (fun (v_18 : Array Value) =>
  callK Tryz.prog .bool F.ref18_move #[(.agg v_18)] (fun (v_19 : Bool) (h : Heap) =>
  R (.bool v_19) h) h))))
  else
  R (.bool false) h))))
  (fun J_20 =>
  fldK b_1 0 (fun (a_21 : Addr) =>
  loadK (.int .i64) h ((some a_21)) (fun (v_22 : Int) =>
  if (v_22 == 1) = true then
  fldK b_1 1 (fun (a_23 : Addr) =>
  loadAggK (sizeOfT Tryz.prog T.api_Move) h ((some a_23)) (fun (v_24 : Array Value) =>
  fldK has_5 1 (fun (a_25 : Addr) =>
  storeAggK (sizeOfT Tryz.prog T.api_Move) h ((some a_25)) v_24 (fun (h : Heap) =>
  fldK b_1 4 (fun (a_26 : Addr) =>
  loadK .bool h ((some a_26)) (fun (v_27 : Bool) =>
  fldK has_5 4 (fun (a_28 : Addr) =>
  storeK h ((some a_28)) (.bool v_27) (fun (h : Heap) =>
  J_20 () h))))))))
  else
  if (v_22 == 2) = true then
  fldK b_1 5 (fun (a_29 : Addr) =>
  loadK (.int .i64) h ((some a_29)) (fun (v_30 : Int) =>
  fldK has_5 5 (fun (a_31 : Addr) =>
  storeK h ((some a_31)) (.int .i64 v_30) (fun (h : Heap) =>
  fldK b_1 5 (fun (a_32 : Addr) =>
  loadK (.int .i64) h ((some a_32)) (fun (v_33 : Int) =>
  if (v_33 != 6) = true then
  fldK b_1 5 (fun (a_34 : Addr) =>
  loadK (.int .i64) h ((some a_34)) (fun (v_35 : Int) =>
  if (v_35 != 7) = true then
  R (.bool false) h
  else
  J_20 () h))
  else
  J_20 () h))))))
  else
  joinW (fun (s_36 : Bool) (h : Heap) =>
  if s_36 = true then
  J_20 () h
  else
  if (v_22 == 5) = true then
  fldK b_1 6 (fun (a_37 : Addr) =>
  loadAggK (sizeOfT Tryz.prog T.api_Tag) h ((some a_37)) (fun (v_38 : Array Value) =>
  fldK has_5 6 (fun (a_39 : Addr) =>
  storeAggK (sizeOfT Tryz.prog T.api_Tag) h ((some a_39)) v_38 (fun (h : Heap) =>
  J_20 () h))))
  else
  if (v_22 == 7) = true then
  fldK b_1 1 (fun (a_40 : Addr) =>
  loadAggK (sizeOfT Tryz.prog T.api_Move) h ((some a_40)) (fun (v_41 : Array Value) =>
  fldK has_5 1 (fun (a_42 : Addr) =>
  storeAggK (sizeOfT Tryz.prog T.api_Move) h ((some a_42)) v_41 (fun (h : Heap) =>
  fldK b_1 38 (fun (a_43 : Addr) =>
  loadAggK (sizeOfT Tryz.prog T.api_Tag) h ((some a_43)) (fun (v_44 : Array Value) =>
  fldK has_5 38 (fun (a_45 : Addr) =>
  storeAggK (sizeOfT Tryz.prog T.api_Tag) h ((some a_45)) v_44 (fun (h : Heap) =>
  J_20 () h))))))))
  else
  R (.bool false) h)
  (fun J_46 =>
  if (v_22 == 3) = true then
  J_46 (v_22 == 3) h
  else
  if (v_22 == 4) = true then
  J_46 (v_22 == 4) h
  else
  J_46 (v_22 == 6) h))))))))))
def ref18_Body.ann : Ann := (.seq .leaf (.seq .leaf (.join [] (.seq .leaf (.block (.seq .leaf (.cond (.seq .leaf .leaf) (.seq .leaf (.cond (.seq .leaf (.seq .leaf (.cond (.seq .leaf .leaf) .leaf))) (.join [(30, .bool)] (.seq .leaf (.cond .leaf (.seq .leaf (.cond .leaf .leaf)))) (.cond .leaf (.seq .leaf (.cond .leaf (.seq .leaf (.cond (.seq .leaf .leaf) (.seq .leaf .leaf))))))))))))) (.seq .leaf .leaf))))
theorem ref18_Body.eq (b0 : Array Value) (R : Value → Heap → Prop) (h : Heap) : ref18_Body.body b0 R h = evFn Tryz.prog Tryz.f27 ref18_Body.ann [(.agg b0)] R h := by kernel_rfl
theorem ref18_Body.calls {b0 : Array Value} {R : Value → Heap → Prop} {h : Heap} (H : ref18_Body.body b0 R h) : HC Tryz.prog F.ref18_Body #[(.agg b0)] R h :=
  evFn_sound mixed Tryz.func27 (by kernel_rfl) (ref18_Body.eq b0 R h ▸ H)

/-! zugzwang/zugzwangref18.Entry -/
def ref18_Entry.body (e0 : Array Value) (R : Value → Heap → Prop) (h : Heap) : Prop :=
  newK h e0 T.api_Entry (fun (e_1 : Option Addr) (h : Heap) =>
  fldK e_1 32 (fun (a_2 : Addr) =>
  loadK (.int .i64) h ((some a_2)) (fun (v_3 : Int) =>
  if (decide (v_3 ≥ 0)) = true then
  fldK e_1 32 (fun (a_4 : Addr) =>
  loadK (.int .i64) h ((some a_4)) (fun (v_5 : Int) =>
  if (decide (v_5 ≤ 4294967295)) = true then
  fldK e_1 65 (fun (a_6 : Addr) =>
  loadAggK (sizeOfT Tryz.prog T.api_Body) h ((some a_6)) (fun (v_7 : Array Value) =>
  callK Tryz.prog .bool F.ref18_Body #[(.agg v_7)] (fun (v_8 : Bool) (h : Heap) =>
  R (.bool v_8) h) h))
  else
  R (.bool false) h))
  else
  R (.bool false) h)))
def ref18_Entry.ann : Ann := (.seq .leaf (.seq .leaf .leaf))
theorem ref18_Entry.eq (e0 : Array Value) (R : Value → Heap → Prop) (h : Heap) : ref18_Entry.body e0 R h = evFn Tryz.prog Tryz.f37 ref18_Entry.ann [(.agg e0)] R h := by kernel_rfl
theorem ref18_Entry.calls {e0 : Array Value} {R : Value → Heap → Prop} {h : Heap} (H : ref18_Entry.body e0 R h) : HC Tryz.prog F.ref18_Entry #[(.agg e0)] R h :=
  evFn_sound mixed Tryz.func37 (by kernel_rfl) (ref18_Entry.eq e0 R h ▸ H)

/-! (*zugzwang/zugzwangref17.Writer).put -/
def ref17_Writer_put.body (w0 : Option Addr) (b1 : Sl) (R : Value → Heap → Prop) (h : Heap) : Prop :=
  joinW (fun (s_1 : Unit) (h : Heap) =>
  derefK w0 (fun (a_2 : Addr) =>
  fldK ((some a_2)) 1 (fun (a_3 : Addr) =>
  loadK (.int .i64) h ((some a_3)) (fun (v_4 : Int) =>
  if (v_4 == 0) = true then
  derefK w0 (fun (a_5 : Addr) =>
  fldK ((some a_5)) 0 (fun (a_6 : Addr) =>
  loadK .slice h ((some a_6)) (fun (v_7 : Sl) =>
  opK Tryz.prog .slice (Builtin.append_ #[T.sl_uint8, T.sl_uint8] T.sl_uint8 #[(.slice v_7.a v_7.n v_7.c), (.slice b1.a b1.n b1.c)]) (fun (v_8 : Sl) (h : Heap) =>
  derefK w0 (fun (a_9 : Addr) =>
  fldK ((some a_9)) 0 (fun (a_10 : Addr) =>
  storeK h ((some a_10)) (.slice v_8.a v_8.n v_8.c) (fun (h : Heap) =>
  R (.tuple #[]) h)))) h)))
  else
  R (.tuple #[]) h))))
  (fun J_11 =>
  joinW (fun (s_12 : Bool) (h : Heap) =>
  if s_12 = true then
  derefK w0 (fun (a_13 : Addr) =>
  fldK ((some a_13)) 1 (fun (a_14 : Addr) =>
  storeK h ((some a_14)) (.int .i64 3) (fun (h : Heap) =>
  J_11 () h)))
  else
  J_11 () h)
  (fun J_15 =>
  derefK w0 (fun (a_16 : Addr) =>
  fldK ((some a_16)) 1 (fun (a_17 : Addr) =>
  loadK (.int .i64) h ((some a_17)) (fun (v_18 : Int) =>
  if (v_18 == 0) = true then
  derefK w0 (fun (a_19 : Addr) =>
  fldK ((some a_19)) 0 (fun (a_20 : Addr) =>
  loadK .slice h ((some a_20)) (fun (v_21 : Sl) =>
  J_15 (decide ((IntKind.i64.wrap (((v_21.n : Int)) + ((b1.n : Int)))) > 65536)) h)))
  else
  J_15 false h)))))
def ref17_Writer_put.ann : Ann := (.join [] (.join [(19, .bool)] .leaf (.cond .leaf .leaf)) (.seq .leaf (.cond .leaf .leaf)))
theorem ref17_Writer_put.eq (w0 : Option Addr) (b1 : Sl) (R : Value → Heap → Prop) (h : Heap) : ref17_Writer_put.body w0 b1 R h = evFn Tryz.prog Tryz.f115 ref17_Writer_put.ann [(.pointer w0), (.slice b1.a b1.n b1.c)] R h := by kernel_rfl
theorem ref17_Writer_put.calls {w0 : Option Addr} {b1 : Sl} {R : Value → Heap → Prop} {h : Heap} (H : ref17_Writer_put.body w0 b1 R h) : HC Tryz.prog F.ref17_Writer_put #[(.pointer w0), (.slice b1.a b1.n b1.c)] R h :=
  evFn_sound mixed Tryz.func115 (by kernel_rfl) (ref17_Writer_put.eq w0 b1 R h ▸ H)

/-! (*zugzwang/zugzwangref17.Writer).Tag -/
def ref17_Writer_Tag.body (w0 : Option Addr) (l1 : Sl) (R : Value → Heap → Prop) (h : Heap) : Prop :=
  loopW (fun X_2 (s_1 : Int) (h : Heap) =>
  if (decide (s_1 < ((l1.n : Int)))) = true then
  loopW (fun X_4 (s_3 : Sl × Int) (h : Heap) =>
  if (decide (s_3.2 < 32)) = true then
  idxK l1 s_1 (sizeOfT Tryz.prog T.api_Tag) (fun (a_5 : Addr) =>
  idxArrK ((some a_5)) 32 s_3.2 (sizeOfT Tryz.prog T.uint8) (fun (a_6 : Addr) =>
  loadK (.int .u8) h ((some a_6)) (fun (v_7 : Int) =>
  newSlK h 1 #[(.int .u8 v_7)] T.uint8 (fun (v_8 : Sl) (h : Heap) =>
  opK Tryz.prog .slice (Builtin.append_ #[T.sl_uint8, T.sl_uint8] T.sl_uint8 #[(.slice s_3.1.a s_3.1.n s_3.1.c), (.slice v_8.a v_8.n v_8.c)]) (fun (v_9 : Sl) (h : Heap) =>
  X_4 (v_9, IntKind.i64.wrap (s_3.2 + 1)) h) h))))
  else
  callK Tryz.prog .unit F.ref17_Writer_put #[(.pointer w0), (.slice s_3.1.a s_3.1.n s_3.1.c)] (fun (v_10 : Unit) (h : Heap) =>
  X_2 (IntKind.i64.wrap (s_1 + 1)) h) h) (⟨none, 0, 0⟩, 0) h
  else
  derefK w0 (fun (a_11 : Addr) =>
  fldK ((some a_11)) 1 (fun (a_12 : Addr) =>
  loadK (.int .i64) h ((some a_12)) (fun (v_13 : Int) =>
  R (.int .i64 v_13) h)))) 0 h
def ref17_Writer_Tag.ann : Ann := (.seq .leaf (.seq (.seq .leaf (.block (.loop [(5, (.int .i64))] (.seq (.seq .leaf (.cond .leaf .leaf)) (.seq (.block (.seq .leaf (.seq (.seq .leaf (.block (.loop [(6, .slice), (7, (.int .i64))] (.seq (.seq .leaf (.cond .leaf .leaf)) (.seq (.block .leaf) .leaf))))) .leaf))) .leaf))))) (.seq .leaf .leaf)))
theorem ref17_Writer_Tag.eq (w0 : Option Addr) (l1 : Sl) (R : Value → Heap → Prop) (h : Heap) : ref17_Writer_Tag.body w0 l1 R h = evFn Tryz.prog Tryz.f84 ref17_Writer_Tag.ann [(.pointer w0), (.slice l1.a l1.n l1.c)] R h := by kernel_rfl
theorem ref17_Writer_Tag.calls {w0 : Option Addr} {l1 : Sl} {R : Value → Heap → Prop} {h : Heap} (H : ref17_Writer_Tag.body w0 l1 R h) : HC Tryz.prog F.ref17_Writer_Tag #[(.pointer w0), (.slice l1.a l1.n l1.c)] R h :=
  evFn_sound mixed Tryz.func84 (by kernel_rfl) (ref17_Writer_Tag.eq w0 l1 R h ▸ H)

/-! zugzwang/zugzwangref17.Four -/
def ref17_Four.body (n0 : Int) (R : Value → Heap → Prop) (h : Heap) : Prop :=
  shiftK 24
  (shiftK 16
  (shiftK 8
  (newSlK h 4 #[(.int .u8 (IntKind.u8.wrap (Int.fdiv n0 (2 ^ min (Int.toNat 24) (IntKind.bits .i64))))), (.int .u8 (IntKind.u8.wrap (Int.fdiv n0 (2 ^ min (Int.toNat 16) (IntKind.bits .i64))))), (.int .u8 (IntKind.u8.wrap (Int.fdiv n0 (2 ^ min (Int.toNat 8) (IntKind.bits .i64))))), (.int .u8 (IntKind.u8.wrap n0))] T.uint8 (fun (v_1 : Sl) (h : Heap) =>
  R (.slice v_1.a v_1.n v_1.c) h))))
def ref17_Four.ann : Ann := (.seq .leaf (.seq .leaf .leaf))
theorem ref17_Four.eq (n0 : Int) (R : Value → Heap → Prop) (h : Heap) : ref17_Four.body n0 R h = evFn Tryz.prog Tryz.f116 ref17_Four.ann [(.int .i64 n0)] R h := by kernel_rfl
theorem ref17_Four.calls {n0 : Int} {R : Value → Heap → Prop} {h : Heap} (H : ref17_Four.body n0 R h) : HC Tryz.prog F.ref17_Four #[(.int .i64 n0)] R h :=
  evFn_sound mixed Tryz.func116 (by kernel_rfl) (ref17_Four.eq n0 R h ▸ H)

/-! (*zugzwang/zugzwangref17.Writer).Number -/
def ref17_Writer_Number.body (w0 : Option Addr) (l1 : Sl) (R : Value → Heap → Prop) (h : Heap) : Prop :=
  loopW (fun X_2 (s_1 : Int) (h : Heap) =>
  if (decide (s_1 < ((l1.n : Int)))) = true then
  joinW (fun (s_3 : Unit) (h : Heap) =>
  idxK l1 s_1 (sizeOfT Tryz.prog T.int) (fun (a_4 : Addr) =>
  loadK (.int .i64) h ((some a_4)) (fun (v_5 : Int) =>
  callK Tryz.prog .slice F.ref17_Four #[(.int .i64 v_5)] (fun (v_6 : Sl) (h : Heap) =>
  callK Tryz.prog .unit F.ref17_Writer_put #[(.pointer w0), (.slice v_6.a v_6.n v_6.c)] (fun (v_7 : Unit) (h : Heap) =>
  X_2 (IntKind.i64.wrap (s_1 + 1)) h) h) h)))
  (fun J_8 =>
  joinW (fun (s_9 : Bool) (h : Heap) =>
  if s_9 = true then
  derefK w0 (fun (a_10 : Addr) =>
  fldK ((some a_10)) 1 (fun (a_11 : Addr) =>
  storeK h ((some a_11)) (.int .i64 2) (fun (h : Heap) =>
  J_8 () h)))
  else
  J_8 () h)
  (fun J_12 =>
  derefK w0 (fun (a_13 : Addr) =>
  fldK ((some a_13)) 1 (fun (a_14 : Addr) =>
  loadK (.int .i64) h ((some a_14)) (fun (v_15 : Int) =>
  if (v_15 == 0) = true then
  idxK l1 s_1 (sizeOfT Tryz.prog T.int) (fun (a_16 : Addr) =>
  loadK (.int .i64) h ((some a_16)) (fun (v_17 : Int) =>
  if (decide (v_17 < 0)) = true then
  J_12 true h
  else
  idxK l1 s_1 (sizeOfT Tryz.prog T.int) (fun (a_18 : Addr) =>
  loadK (.int .i64) h ((some a_18)) (fun (v_19 : Int) =>
  J_12 (decide (v_19 > 4294967295)) h))))
  else
  J_12 false h)))))
  else
  derefK w0 (fun (a_20 : Addr) =>
  fldK ((some a_20)) 1 (fun (a_21 : Addr) =>
  loadK (.int .i64) h ((some a_21)) (fun (v_22 : Int) =>
  R (.int .i64 v_22) h)))) 0 h
def ref17_Writer_Number.ann : Ann := (.seq .leaf (.seq (.seq .leaf (.block (.loop [(5, (.int .i64))] (.seq (.seq .leaf (.cond .leaf .leaf)) (.seq (.block (.join [] (.join [(30, .bool)] .leaf (.cond .leaf .leaf)) .leaf)) .leaf))))) (.seq .leaf .leaf)))
theorem ref17_Writer_Number.eq (w0 : Option Addr) (l1 : Sl) (R : Value → Heap → Prop) (h : Heap) : ref17_Writer_Number.body w0 l1 R h = evFn Tryz.prog Tryz.f85 ref17_Writer_Number.ann [(.pointer w0), (.slice l1.a l1.n l1.c)] R h := by kernel_rfl
theorem ref17_Writer_Number.calls {w0 : Option Addr} {l1 : Sl} {R : Value → Heap → Prop} {h : Heap} (H : ref17_Writer_Number.body w0 l1 R h) : HC Tryz.prog F.ref17_Writer_Number #[(.pointer w0), (.slice l1.a l1.n l1.c)] R h :=
  evFn_sound mixed Tryz.func85 (by kernel_rfl) (ref17_Writer_Number.eq w0 l1 R h ▸ H)

/-! (*zugzwang/zugzwangref17.Writer).Byte -/
def ref17_Writer_Byte.body (w0 : Option Addr) (l1 : Sl) (R : Value → Heap → Prop) (h : Heap) : Prop :=
  loopW (fun X_2 (s_1 : Int) (h : Heap) =>
  if (decide (s_1 < ((l1.n : Int)))) = true then
  joinW (fun (s_3 : Unit) (h : Heap) =>
  idxK l1 s_1 (sizeOfT Tryz.prog T.int) (fun (a_4 : Addr) =>
  loadK (.int .i64) h ((some a_4)) (fun (v_5 : Int) =>
  newSlK h 1 #[(.int .u8 (IntKind.u8.wrap v_5))] T.uint8 (fun (v_6 : Sl) (h : Heap) =>
  callK Tryz.prog .unit F.ref17_Writer_put #[(.pointer w0), (.slice v_6.a v_6.n v_6.c)] (fun (v_7 : Unit) (h : Heap) =>
  X_2 (IntKind.i64.wrap (s_1 + 1)) h) h))))
  (fun J_8 =>
  joinW (fun (s_9 : Bool) (h : Heap) =>
  if s_9 = true then
  derefK w0 (fun (a_10 : Addr) =>
  fldK ((some a_10)) 1 (fun (a_11 : Addr) =>
  storeK h ((some a_11)) (.int .i64 2) (fun (h : Heap) =>
  J_8 () h)))
  else
  J_8 () h)
  (fun J_12 =>
  derefK w0 (fun (a_13 : Addr) =>
  fldK ((some a_13)) 1 (fun (a_14 : Addr) =>
  loadK (.int .i64) h ((some a_14)) (fun (v_15 : Int) =>
  if (v_15 == 0) = true then
  idxK l1 s_1 (sizeOfT Tryz.prog T.int) (fun (a_16 : Addr) =>
  loadK (.int .i64) h ((some a_16)) (fun (v_17 : Int) =>
  if (decide (v_17 < 0)) = true then
  J_12 true h
  else
  idxK l1 s_1 (sizeOfT Tryz.prog T.int) (fun (a_18 : Addr) =>
  loadK (.int .i64) h ((some a_18)) (fun (v_19 : Int) =>
  J_12 (decide (v_19 > 255)) h))))
  else
  J_12 false h)))))
  else
  derefK w0 (fun (a_20 : Addr) =>
  fldK ((some a_20)) 1 (fun (a_21 : Addr) =>
  loadK (.int .i64) h ((some a_21)) (fun (v_22 : Int) =>
  R (.int .i64 v_22) h)))) 0 h
def ref17_Writer_Byte.ann : Ann := (.seq .leaf (.seq (.seq .leaf (.block (.loop [(5, (.int .i64))] (.seq (.seq .leaf (.cond .leaf .leaf)) (.seq (.block (.join [] (.join [(30, .bool)] .leaf (.cond .leaf .leaf)) .leaf)) .leaf))))) (.seq .leaf .leaf)))
theorem ref17_Writer_Byte.eq (w0 : Option Addr) (l1 : Sl) (R : Value → Heap → Prop) (h : Heap) : ref17_Writer_Byte.body w0 l1 R h = evFn Tryz.prog Tryz.f86 ref17_Writer_Byte.ann [(.pointer w0), (.slice l1.a l1.n l1.c)] R h := by kernel_rfl
theorem ref17_Writer_Byte.calls {w0 : Option Addr} {l1 : Sl} {R : Value → Heap → Prop} {h : Heap} (H : ref17_Writer_Byte.body w0 l1 R h) : HC Tryz.prog F.ref17_Writer_Byte #[(.pointer w0), (.slice l1.a l1.n l1.c)] R h :=
  evFn_sound mixed Tryz.func86 (by kernel_rfl) (ref17_Writer_Byte.eq w0 l1 R h ▸ H)

/-! zugzwang/zugzwangref18.put -/
def ref18_put.body (w0 : Option Addr) (e1 : Array Value) (R : Value → Heap → Prop) (h : Heap) : Prop :=
  newK h e1 T.api_Entry (fun (e_1 : Option Addr) (h : Heap) =>
  fldK e_1 0 (fun (a_2 : Addr) =>
  loadAggK (sizeOfT Tryz.prog T.api_Tag) h ((some a_2)) (fun (v_3 : Array Value) =>
  opK Tryz.prog .slice (Instr.buildSlice T.sl_api_Tag 1 #[(0, (.agg v_3))]) (fun (v_4 : Sl) (h : Heap) =>
  callK Tryz.prog (.int .i64) F.ref17_Writer_Tag #[(.pointer w0), (.slice v_4.a v_4.n v_4.c)] (fun (v_5 : Int) (h : Heap) =>
  fldK e_1 32 (fun (a_6 : Addr) =>
  loadK (.int .i64) h ((some a_6)) (fun (v_7 : Int) =>
  newSlK h 1 #[(.int .i64 v_7)] T.int (fun (v_8 : Sl) (h : Heap) =>
  callK Tryz.prog (.int .i64) F.ref17_Writer_Number #[(.pointer w0), (.slice v_8.a v_8.n v_8.c)] (fun (v_9 : Int) (h : Heap) =>
  fldK e_1 33 (fun (a_10 : Addr) =>
  loadAggK (sizeOfT Tryz.prog T.api_Tag) h ((some a_10)) (fun (v_11 : Array Value) =>
  opK Tryz.prog .slice (Instr.buildSlice T.sl_api_Tag 1 #[(0, (.agg v_11))]) (fun (v_12 : Sl) (h : Heap) =>
  callK Tryz.prog (.int .i64) F.ref17_Writer_Tag #[(.pointer w0), (.slice v_12.a v_12.n v_12.c)] (fun (v_13 : Int) (h : Heap) =>
  fldK e_1 65 (fun (a_14 : Addr) =>
  loadAggK (sizeOfT Tryz.prog T.api_Body) h ((some a_14)) (fun (v_15 : Array Value) =>
  newK h (zerosOf Tryz.prog T.api_Body) T.api_Body (fun (b_16 : Option Addr) (h : Heap) =>
  storeAggK (sizeOfT Tryz.prog T.api_Body) h b_16 v_15 (fun (h : Heap) =>
  fldK b_16 0 (fun (a_17 : Addr) =>
  loadK (.int .i64) h ((some a_17)) (fun (v_18 : Int) =>
  newSlK h 1 #[(.int .i64 v_18)] T.int (fun (v_19 : Sl) (h : Heap) =>
  callK Tryz.prog (.int .i64) F.ref17_Writer_Byte #[(.pointer w0), (.slice v_19.a v_19.n v_19.c)] (fun (v_20 : Int) (h : Heap) =>
  fldK b_16 1 (fun (a_21 : Addr) =>
  fldK ((some a_21)) 0 (fun (a_22 : Addr) =>
  loadK (.int .i64) h ((some a_22)) (fun (v_23 : Int) =>
  fldK b_16 1 (fun (a_24 : Addr) =>
  fldK ((some a_24)) 1 (fun (a_25 : Addr) =>
  loadK (.int .i64) h ((some a_25)) (fun (v_26 : Int) =>
  fldK b_16 1 (fun (a_27 : Addr) =>
  fldK ((some a_27)) 2 (fun (a_28 : Addr) =>
  loadK (.int .i64) h ((some a_28)) (fun (v_29 : Int) =>
  newSlK h 3 #[(.int .i64 v_23), (.int .i64 v_26), (.int .i64 v_29)] T.int (fun (v_30 : Sl) (h : Heap) =>
  fldK b_16 0 (fun (a_31 : Addr) =>
  loadK (.int .i64) h ((some a_31)) (fun (v_32 : Int) =>
  if (v_32 == 1) = true then
  callK Tryz.prog (.int .i64) F.ref17_Writer_Byte #[(.pointer w0), (.slice v_30.a v_30.n v_30.c)] (fun (v_33 : Int) (h : Heap) =>
  fldK b_16 4 (fun (a_34 : Addr) =>
  loadK .bool h ((some a_34)) (fun (v_35 : Bool) =>
  if v_35 = true then
  newSlK h 1 #[(.int .i64 1)] T.int (fun (v_36 : Sl) (h : Heap) =>
  callK Tryz.prog (.int .i64) F.ref17_Writer_Byte #[(.pointer w0), (.slice v_36.a v_36.n v_36.c)] (fun (v_37 : Int) (h : Heap) =>
  R (.tuple #[]) h) h)
  else
  newSlK h 1 #[(.int .i64 0)] T.int (fun (v_38 : Sl) (h : Heap) =>
  callK Tryz.prog (.int .i64) F.ref17_Writer_Byte #[(.pointer w0), (.slice v_38.a v_38.n v_38.c)] (fun (v_39 : Int) (h : Heap) =>
  R (.tuple #[]) h) h)))) h
  else
  if (v_32 == 2) = true then
  fldK b_16 5 (fun (a_40 : Addr) =>
  loadK (.int .i64) h ((some a_40)) (fun (v_41 : Int) =>
  newSlK h 1 #[(.int .i64 v_41)] T.int (fun (v_42 : Sl) (h : Heap) =>
  callK Tryz.prog (.int .i64) F.ref17_Writer_Byte #[(.pointer w0), (.slice v_42.a v_42.n v_42.c)] (fun (v_43 : Int) (h : Heap) =>
  R (.tuple #[]) h) h)))
  else
  if (v_32 == 5) = true then
  fldK b_16 6 (fun (a_44 : Addr) =>
  loadAggK (sizeOfT Tryz.prog T.api_Tag) h ((some a_44)) (fun (v_45 : Array Value) =>
  opK Tryz.prog .slice (Instr.buildSlice T.sl_api_Tag 1 #[(0, (.agg v_45))]) (fun (v_46 : Sl) (h : Heap) =>
  callK Tryz.prog (.int .i64) F.ref17_Writer_Tag #[(.pointer w0), (.slice v_46.a v_46.n v_46.c)] (fun (v_47 : Int) (h : Heap) =>
  R (.tuple #[]) h) h) h))
  else
  if (v_32 == 7) = true then
  callK Tryz.prog (.int .i64) F.ref17_Writer_Byte #[(.pointer w0), (.slice v_30.a v_30.n v_30.c)] (fun (v_48 : Int) (h : Heap) =>
  fldK b_16 38 (fun (a_49 : Addr) =>
  loadAggK (sizeOfT Tryz.prog T.api_Tag) h ((some a_49)) (fun (v_50 : Array Value) =>
  opK Tryz.prog .slice (Instr.buildSlice T.sl_api_Tag 1 #[(0, (.agg v_50))]) (fun (v_51 : Sl) (h : Heap) =>
  callK Tryz.prog (.int .i64) F.ref17_Writer_Tag #[(.pointer w0), (.slice v_51.a v_51.n v_51.c)] (fun (v_52 : Int) (h : Heap) =>
  R (.tuple #[]) h) h) h))) h
  else
  R (.tuple #[]) h))))))))))))) h)))))))) h) h))) h)))) h) h)))
def ref18_put.ann : Ann := (.seq .leaf (.seq .leaf (.seq .leaf (.seq .leaf (.seq .leaf (.seq .leaf (.seq .leaf (.seq .leaf (.block (.seq .leaf (.cond (.seq .leaf (.seq .leaf (.cond .leaf .leaf))) (.seq .leaf (.cond .leaf (.seq .leaf (.cond .leaf (.seq .leaf (.cond (.seq .leaf .leaf) .leaf)))))))))))))))))
theorem ref18_put.eq (w0 : Option Addr) (e1 : Array Value) (R : Value → Heap → Prop) (h : Heap) : ref18_put.body w0 e1 R h = evFn Tryz.prog Tryz.f69 ref18_put.ann [(.pointer w0), (.agg e1)] R h := by kernel_rfl
theorem ref18_put.calls {w0 : Option Addr} {e1 : Array Value} {R : Value → Heap → Prop} {h : Heap} (H : ref18_put.body w0 e1 R h) : HC Tryz.prog F.ref18_put #[(.pointer w0), (.agg e1)] R h :=
  evFn_sound mixed Tryz.func69 (by kernel_rfl) (ref18_put.eq w0 e1 R h ▸ H)

/-! zugzwang/zugzwangref18.PutEntry -/
def ref18_PutEntry.body (e0 : Array Value) (R : Value → Heap → Prop) (h : Heap) : Prop :=
  newK h e0 T.api_Entry (fun (e_1 : Option Addr) (h : Heap) =>
  loadAggK (sizeOfT Tryz.prog T.api_Entry) h e_1 (fun (v_2 : Array Value) =>
  callK Tryz.prog .bool F.ref18_Entry #[(.agg v_2)] (fun (v_3 : Bool) (h : Heap) =>
  if (!v_3) = true then
  R (.tuple #[(.slice none 0 0), (.int .i64 2)]) h
  else
  buildK Tryz.prog (Instr.build T.zugzwangref17_Writer #[]) (fun (v_4 : Array Value) =>
  newK h v_4 T.zugzwangref17_Writer (fun (v_5 : Option Addr) (h : Heap) =>
  loadAggK (sizeOfT Tryz.prog T.api_Entry) h e_1 (fun (v_6 : Array Value) =>
  callK Tryz.prog .unit F.ref18_put #[(.pointer v_5), (.agg v_6)] (fun (v_7 : Unit) (h : Heap) =>
  derefK v_5 (fun (a_8 : Addr) =>
  fldK ((some a_8)) 0 (fun (a_9 : Addr) =>
  loadK .slice h ((some a_9)) (fun (v_10 : Sl) =>
  R (.tuple #[(.slice v_10.a v_10.n v_10.c), (.int .i64 0)]) h)))) h)))) h))
def ref18_PutEntry.ann : Ann := (.seq .leaf (.seq (.seq .leaf (.cond (.seq .leaf .leaf) .leaf)) (.seq .leaf (.seq .leaf (.seq .leaf .leaf)))))
theorem ref18_PutEntry.eq (e0 : Array Value) (R : Value → Heap → Prop) (h : Heap) : ref18_PutEntry.body e0 R h = evFn Tryz.prog Tryz.f57 ref18_PutEntry.ann [(.agg e0)] R h := by kernel_rfl
theorem ref18_PutEntry.calls {e0 : Array Value} {R : Value → Heap → Prop} {h : Heap} (H : ref18_PutEntry.body e0 R h) : HC Tryz.prog F.ref18_PutEntry #[(.agg e0)] R h :=
  evFn_sound mixed Tryz.func57 (by kernel_rfl) (ref18_PutEntry.eq e0 R h ▸ H)

/-! zugzwang/zugzwangref02.filled -/
def ref02_filled.body (b0 : Sl) (R : Value → Heap → Prop) (h : Heap) : Prop :=
  newSlK h 0 #[] T.uint8 (fun (v_1 : Sl) (h : Heap) =>
  opK Tryz.prog .slice (Builtin.append_ #[T.sl_uint8, T.sl_uint8] T.sl_uint8 #[(.slice v_1.a v_1.n v_1.c), (.slice b0.a b0.n b0.c)]) (fun (v_2 : Sl) (h : Heap) =>
  newSlK h 1 #[(.int .u8 128)] T.uint8 (fun (v_3 : Sl) (h : Heap) =>
  opK Tryz.prog .slice (Builtin.append_ #[T.sl_uint8, T.sl_uint8] T.sl_uint8 #[(.slice v_2.a v_2.n v_2.c), (.slice v_3.a v_3.n v_3.c)]) (fun (v_4 : Sl) (h : Heap) =>
  loopW (fun X_6 (s_5 : Sl) (h : Heap) =>
  divK 64
  (if ((Int.tmod ((s_5.n : Int)) 64) != 56) = true then
  newSlK h 1 #[(.int .u8 0)] T.uint8 (fun (v_7 : Sl) (h : Heap) =>
  opK Tryz.prog .slice (Builtin.append_ #[T.sl_uint8, T.sl_uint8] T.sl_uint8 #[(.slice s_5.a s_5.n s_5.c), (.slice v_7.a v_7.n v_7.c)]) (fun (v_8 : Sl) (h : Heap) =>
  X_6 v_8 h) h)
  else
  loopW (fun X_10 (s_9 : Sl × Int) (h : Heap) =>
  if (decide (s_9.2 ≥ 0)) = true then
  shiftK (IntKind.i64.wrap (8 * s_9.2))
  (newSlK h 1 #[(.int .u8 (IntKind.u8.wrap (Int.fdiv (IntKind.i64.wrap (8 * ((b0.n : Int)))) (2 ^ min (Int.toNat (IntKind.i64.wrap (8 * s_9.2))) (IntKind.bits .i64)))))] T.uint8 (fun (v_11 : Sl) (h : Heap) =>
  opK Tryz.prog .slice (Builtin.append_ #[T.sl_uint8, T.sl_uint8] T.sl_uint8 #[(.slice s_9.1.a s_9.1.n s_9.1.c), (.slice v_11.a v_11.n v_11.c)]) (fun (v_12 : Sl) (h : Heap) =>
  X_10 (v_12, IntKind.i64.wrap (s_9.2 - 1)) h) h))
  else
  R (.slice s_9.1.a s_9.1.n s_9.1.c) h) (s_5, 7) h)) v_4 h) h)) h)
def ref02_filled.ann : Ann := (.seq .leaf (.seq .leaf (.seq (.block (.loop [(3, .slice)] (.seq (.seq .leaf (.cond .leaf .leaf)) (.block .leaf)))) (.seq .leaf (.seq (.seq .leaf (.block (.loop [(3, .slice), (5, (.int .i64))] (.seq (.seq .leaf (.cond .leaf .leaf)) (.seq (.block .leaf) .leaf))))) (.seq .leaf .leaf))))))
theorem ref02_filled.eq (b0 : Sl) (R : Value → Heap → Prop) (h : Heap) : ref02_filled.body b0 R h = evFn Tryz.prog Tryz.f87 ref02_filled.ann [(.slice b0.a b0.n b0.c)] R h := by kernel_rfl
theorem ref02_filled.calls {b0 : Sl} {R : Value → Heap → Prop} {h : Heap} (H : ref02_filled.body b0 R h) : HC Tryz.prog F.ref02_filled #[(.slice b0.a b0.n b0.c)] R h :=
  evFn_sound mixed Tryz.func87 (by kernel_rfl) (ref02_filled.eq b0 R h ▸ H)

/-! zugzwang/zugzwangref02.constants -/
def ref02_constants.body  (R : Value → Heap → Prop) (h : Heap) : Prop :=
  newSlK h 64 #[(.int .u32 1116352408), (.int .u32 1899447441), (.int .u32 3049323471), (.int .u32 3921009573), (.int .u32 961987163), (.int .u32 1508970993), (.int .u32 2453635748), (.int .u32 2870763221), (.int .u32 3624381080), (.int .u32 310598401), (.int .u32 607225278), (.int .u32 1426881987), (.int .u32 1925078388), (.int .u32 2162078206), (.int .u32 2614888103), (.int .u32 3248222580), (.int .u32 3835390401), (.int .u32 4022224774), (.int .u32 264347078), (.int .u32 604807628), (.int .u32 770255983), (.int .u32 1249150122), (.int .u32 1555081692), (.int .u32 1996064986), (.int .u32 2554220882), (.int .u32 2821834349), (.int .u32 2952996808), (.int .u32 3210313671), (.int .u32 3336571891), (.int .u32 3584528711), (.int .u32 113926993), (.int .u32 338241895), (.int .u32 666307205), (.int .u32 773529912), (.int .u32 1294757372), (.int .u32 1396182291), (.int .u32 1695183700), (.int .u32 1986661051), (.int .u32 2177026350), (.int .u32 2456956037), (.int .u32 2730485921), (.int .u32 2820302411), (.int .u32 3259730800), (.int .u32 3345764771), (.int .u32 3516065817), (.int .u32 3600352804), (.int .u32 4094571909), (.int .u32 275423344), (.int .u32 430227734), (.int .u32 506948616), (.int .u32 659060556), (.int .u32 883997877), (.int .u32 958139571), (.int .u32 1322822218), (.int .u32 1537002063), (.int .u32 1747873779), (.int .u32 1955562222), (.int .u32 2024104815), (.int .u32 2227730452), (.int .u32 2361852424), (.int .u32 2428436474), (.int .u32 2756734187), (.int .u32 3204031479), (.int .u32 3329325298)] T.uint32 (fun (v_1 : Sl) (h : Heap) =>
  R (.slice v_1.a v_1.n v_1.c) h)
def ref02_constants.ann : Ann := (.seq .leaf (.seq .leaf .leaf))
theorem ref02_constants.eq  (R : Value → Heap → Prop) (h : Heap) : ref02_constants.body  R h = evFn Tryz.prog Tryz.f88 ref02_constants.ann [] R h := by kernel_rfl
theorem ref02_constants.calls  {R : Value → Heap → Prop} {h : Heap} (H : ref02_constants.body  R h) : HC Tryz.prog F.ref02_constants #[] R h :=
  evFn_sound mixed Tryz.func88 (by kernel_rfl) (ref02_constants.eq  R h ▸ H)

/-! zugzwang/zugzwangref02.begin -/
def ref02_begin.body  (R : Value → Heap → Prop) (h : Heap) : Prop :=
  newSlK h 8 #[(.int .u32 1779033703), (.int .u32 3144134277), (.int .u32 1013904242), (.int .u32 2773480762), (.int .u32 1359893119), (.int .u32 2600822924), (.int .u32 528734635), (.int .u32 1541459225)] T.uint32 (fun (v_1 : Sl) (h : Heap) =>
  R (.slice v_1.a v_1.n v_1.c) h)
def ref02_begin.ann : Ann := (.seq .leaf (.seq .leaf .leaf))
theorem ref02_begin.eq  (R : Value → Heap → Prop) (h : Heap) : ref02_begin.body  R h = evFn Tryz.prog Tryz.f89 ref02_begin.ann [] R h := by kernel_rfl
theorem ref02_begin.calls  {R : Value → Heap → Prop} {h : Heap} (H : ref02_begin.body  R h) : HC Tryz.prog F.ref02_begin #[] R h :=
  evFn_sound mixed Tryz.func89 (by kernel_rfl) (ref02_begin.eq  R h ▸ H)

/-! zugzwang/zugzwangref01.Sum -/
def ref01_Sum.body (words0 : Sl) (R : Value → Heap → Prop) (h : Heap) : Prop :=
  loopW (fun X_2 (s_1 : Int × Int) (h : Heap) =>
  if (decide (s_1.2 < ((words0.n : Int)))) = true then
  idxK words0 s_1.2 (sizeOfT Tryz.prog T.uint32) (fun (a_3 : Addr) =>
  loadK (.int .u32) h ((some a_3)) (fun (v_4 : Int) =>
  divK 4294967296
  (X_2 (Int.tmod (IntKind.u64.wrap (s_1.1 + (IntKind.u64.wrap v_4))) 4294967296, IntKind.i64.wrap (s_1.2 + 1)) h)))
  else
  R (.int .u32 (IntKind.u32.wrap s_1.1)) h) (0, 0) h
def ref01_Sum.ann : Ann := (.seq .leaf (.seq .leaf (.seq (.seq .leaf (.block (.loop [(3, (.int .u64)), (4, (.int .i64))] (.seq (.seq .leaf (.cond .leaf .leaf)) (.seq (.block .leaf) .leaf))))) (.seq .leaf .leaf))))
theorem ref01_Sum.eq (words0 : Sl) (R : Value → Heap → Prop) (h : Heap) : ref01_Sum.body words0 R h = evFn Tryz.prog Tryz.f91 ref01_Sum.ann [(.slice words0.a words0.n words0.c)] R h := by kernel_rfl
theorem ref01_Sum.calls {words0 : Sl} {R : Value → Heap → Prop} {h : Heap} (H : ref01_Sum.body words0 R h) : HC Tryz.prog F.ref01_Sum #[(.slice words0.a words0.n words0.c)] R h :=
  evFn_sound mixed Tryz.func91 (by kernel_rfl) (ref01_Sum.eq words0 R h ▸ H)

/-! zugzwang/zugzwangref01.Words -/
def ref01_Words.body (b0 : Sl) (R : Value → Heap → Prop) (h : Heap) : Prop :=
  divK 4
  (if ((Int.tmod ((b0.n : Int)) 4) != 0) = true then
  R (.tuple #[(.slice none 0 0), (.int .i64 4)]) h
  else
  loopW (fun X_2 (s_1 : Sl × Int) (h : Heap) =>
  if (decide (s_1.2 < ((b0.n : Int)))) = true then
  idxK b0 s_1.2 (sizeOfT Tryz.prog T.uint8) (fun (a_3 : Addr) =>
  idxK b0 (IntKind.i64.wrap (s_1.2 + 1)) (sizeOfT Tryz.prog T.uint8) (fun (a_4 : Addr) =>
  idxK b0 (IntKind.i64.wrap (s_1.2 + 2)) (sizeOfT Tryz.prog T.uint8) (fun (a_5 : Addr) =>
  idxK b0 (IntKind.i64.wrap (s_1.2 + 3)) (sizeOfT Tryz.prog T.uint8) (fun (a_6 : Addr) =>
  loadK (.int .u8) h ((some a_3)) (fun (v_7 : Int) =>
  loadK (.int .u8) h ((some a_4)) (fun (v_8 : Int) =>
  loadK (.int .u8) h ((some a_5)) (fun (v_9 : Int) =>
  loadK (.int .u8) h ((some a_6)) (fun (v_10 : Int) =>
  newSlK h 1 #[(.int .u32 (IntKind.u32.wrap ((IntKind.u32.wrap ((IntKind.u32.wrap ((IntKind.u32.wrap ((IntKind.u32.wrap v_7) * 16777216)) + (IntKind.u32.wrap ((IntKind.u32.wrap v_8) * 65536)))) + (IntKind.u32.wrap ((IntKind.u32.wrap v_9) * 256)))) + (IntKind.u32.wrap v_10))))] T.uint32 (fun (v_11 : Sl) (h : Heap) =>
  opK Tryz.prog .slice (Builtin.append_ #[T.sl_uint32, T.sl_uint32] T.sl_uint32 #[(.slice s_1.1.a s_1.1.n s_1.1.c), (.slice v_11.a v_11.n v_11.c)]) (fun (v_12 : Sl) (h : Heap) =>
  X_2 (v_12, IntKind.i64.wrap (s_1.2 + 4)) h) h)))))))))
  else
  R (.tuple #[(.slice s_1.1.a s_1.1.n s_1.1.c), (.int .i64 0)]) h) (⟨none, 0, 0⟩, 0) h)
def ref01_Words.ann : Ann := (.seq .leaf (.seq (.seq .leaf (.cond (.seq .leaf .leaf) .leaf)) (.seq .leaf (.seq (.seq .leaf (.block (.loop [(4, .slice), (5, (.int .i64))] (.seq (.seq .leaf (.cond .leaf .leaf)) (.seq (.block (.any (.loc 0 (.loc 1 (.loc 2 (.loc 3 (.loc 7 (.loc 8 (.loc 9 (.loc 10 (.loc 15 (.loc 16 (.loc 17 (.loc 18 (.loc 23 (.loc 24 (.loc 25 (.loc 26 (.st 4 8057274464 (.loc 5 (.loc 6 (.st 11 8057286656 (.loc 12 (.loc 13 (.loc 14 (.st 19 8060403712 (.loc 20 (.loc 21 (.loc 22 (.st 27 8321499136 (.loc 28 (.loc 29 (.last 30 (.last 31 (.loc 32 .done))))))))))))))))))))))))))))))))))) .leaf))))) (.seq .leaf .leaf)))))
theorem ref01_Words.eq (b0 : Sl) (R : Value → Heap → Prop) (h : Heap) : ref01_Words.body b0 R h = evFn Tryz.prog Tryz.f117 ref01_Words.ann [(.slice b0.a b0.n b0.c)] R h := by kernel_rfl
theorem ref01_Words.calls {b0 : Sl} {R : Value → Heap → Prop} {h : Heap} (H : ref01_Words.body b0 R h) : HC Tryz.prog F.ref01_Words #[(.slice b0.a b0.n b0.c)] R h :=
  evFn_sound mixed Tryz.func117 (by kernel_rfl) (ref01_Words.eq b0 R h ▸ H)

/-! zugzwang/zugzwangref01.bit -/
def ref01_bit.body (x0 : Int) (k1 : Int) (R : Value → Heap → Prop) (h : Heap) : Prop :=
  shiftK k1
  (divK 2
  (R (.bool ((Int.tmod (Int.fdiv x0 (2 ^ min (Int.toNat k1) (IntKind.bits .u32))) 2) == 1)) h))
def ref01_bit.ann : Ann := (.seq .leaf (.seq .leaf .leaf))
theorem ref01_bit.eq (x0 : Int) (k1 : Int) (R : Value → Heap → Prop) (h : Heap) : ref01_bit.body x0 k1 R h = evFn Tryz.prog Tryz.f119 ref01_bit.ann [(.int .u32 x0), (.int .i64 k1)] R h := by kernel_rfl
theorem ref01_bit.calls {x0 : Int} {k1 : Int} {R : Value → Heap → Prop} {h : Heap} (H : ref01_bit.body x0 k1 R h) : HC Tryz.prog F.ref01_bit #[(.int .u32 x0), (.int .i64 k1)] R h :=
  evFn_sound mixed Tryz.func119 (by kernel_rfl) (ref01_bit.eq x0 k1 R h ▸ H)

/-! zugzwang/zugzwangref01.low -/
def ref01_low.body (n0 : Int) (R : Value → Heap → Prop) (h : Heap) : Prop :=
  divK 32
  (if (decide ((Int.tmod n0 32) < 0)) = true then
  R (.int .i64 (IntKind.i64.wrap ((Int.tmod n0 32) + 32))) h
  else
  R (.int .i64 (Int.tmod n0 32)) h)
def ref01_low.ann : Ann := (.seq .leaf (.seq .leaf (.seq (.seq .leaf (.cond .leaf .leaf)) (.seq .leaf .leaf))))
theorem ref01_low.eq (n0 : Int) (R : Value → Heap → Prop) (h : Heap) : ref01_low.body n0 R h = evFn Tryz.prog Tryz.f120 ref01_low.ann [(.int .i64 n0)] R h := by kernel_rfl
theorem ref01_low.calls {n0 : Int} {R : Value → Heap → Prop} {h : Heap} (H : ref01_low.body n0 R h) : HC Tryz.prog F.ref01_low #[(.int .i64 n0)] R h :=
  evFn_sound mixed Tryz.func120 (by kernel_rfl) (ref01_low.eq n0 R h ▸ H)

/-! zugzwang/zugzwangref01.place -/
def ref01_place.body (k0 : Int) (one1 : Bool) (R : Value → Heap → Prop) (h : Heap) : Prop :=
  if one1 = true then
  shiftK k0
  (R (.int .u32 (IntKind.u32.wrap (1 * 2 ^ min (Int.toNat k0) (IntKind.bits .u32)))) h)
  else
  R (.int .u32 0) h
def ref01_place.ann : Ann := (.seq .leaf (.seq (.seq .leaf (.cond (.seq .leaf .leaf) .leaf)) (.seq .leaf .leaf)))
theorem ref01_place.eq (k0 : Int) (one1 : Bool) (R : Value → Heap → Prop) (h : Heap) : ref01_place.body k0 one1 R h = evFn Tryz.prog Tryz.f121 ref01_place.ann [(.int .i64 k0), (.bool one1)] R h := by kernel_rfl
theorem ref01_place.calls {k0 : Int} {one1 : Bool} {R : Value → Heap → Prop} {h : Heap} (H : ref01_place.body k0 one1 R h) : HC Tryz.prog F.ref01_place #[(.int .i64 k0), (.bool one1)] R h :=
  evFn_sound mixed Tryz.func121 (by kernel_rfl) (ref01_place.eq k0 one1 R h ▸ H)

/-! zugzwang/zugzwangref01.Mix -/
def ref01_Mix.body (x0 : Int) (turns1 : Sl) (R : Value → Heap → Prop) (h : Heap) : Prop :=
  loopW (fun X_2 (s_1 : Int × Int) (h : Heap) =>
  if (decide (s_1.2 < 32)) = true then
  loopW (fun X_4 (s_3 : Bool × Int) (h : Heap) =>
  if (decide (s_3.2 < ((turns1.n : Int)))) = true then
  idxK turns1 s_3.2 (sizeOfT Tryz.prog T.int) (fun (a_5 : Addr) =>
  loadK (.int .i64) h ((some a_5)) (fun (v_6 : Int) =>
  callK Tryz.prog (.int .i64) F.ref01_low #[(.int .i64 v_6)] (fun (v_7 : Int) (h : Heap) =>
  divK 32
  (callK Tryz.prog .bool F.ref01_bit #[(.int .u32 x0), (.int .i64 (Int.tmod (IntKind.i64.wrap (s_1.2 + v_7)) 32))] (fun (v_8 : Bool) (h : Heap) =>
  if v_8 = true then
  X_4 (!s_3.1, IntKind.i64.wrap (s_3.2 + 1)) h
  else
  X_4 (s_3.1, IntKind.i64.wrap (s_3.2 + 1)) h) h)) h))
  else
  callK Tryz.prog (.int .u32) F.ref01_place #[(.int .i64 s_1.2), (.bool s_3.1)] (fun (v_9 : Int) (h : Heap) =>
  X_2 (IntKind.u32.wrap (s_1.1 + v_9), IntKind.i64.wrap (s_1.2 + 1)) h) h) (false, 0) h
  else
  R (.int .u32 s_1.1) h) (0, 0) h
def ref01_Mix.ann : Ann := (.seq .leaf (.seq .leaf (.seq (.seq .leaf (.block (.loop [(5, (.int .u32)), (6, (.int .i64))] (.seq (.seq .leaf (.cond .leaf .leaf)) (.seq (.block (.seq .leaf (.seq (.seq .leaf (.block (.loop [(7, .bool), (8, (.int .i64))] (.seq (.seq .leaf (.cond .leaf .leaf)) (.seq (.block (.seq .leaf (.cond .leaf .leaf))) .leaf))))) .leaf))) .leaf))))) (.seq .leaf .leaf))))
theorem ref01_Mix.eq (x0 : Int) (turns1 : Sl) (R : Value → Heap → Prop) (h : Heap) : ref01_Mix.body x0 turns1 R h = evFn Tryz.prog Tryz.f92 ref01_Mix.ann [(.int .u32 x0), (.slice turns1.a turns1.n turns1.c)] R h := by kernel_rfl
theorem ref01_Mix.calls {x0 : Int} {turns1 : Sl} {R : Value → Heap → Prop} {h : Heap} (H : ref01_Mix.body x0 turns1 R h) : HC Tryz.prog F.ref01_Mix #[(.int .u32 x0), (.slice turns1.a turns1.n turns1.c)] R h :=
  evFn_sound mixed Tryz.func92 (by kernel_rfl) (ref01_Mix.eq x0 turns1 R h ▸ H)

/-! zugzwang/zugzwangref01.Shift -/
def ref01_Shift.body (x0 : Int) (n1 : Int) (R : Value → Heap → Prop) (h : Heap) : Prop :=
  if (decide (n1 < 0)) = true then
  R (.int .u32 x0) h
  else
  loopW (fun X_2 (s_1 : Int × Int) (h : Heap) =>
  if (decide (s_1.2 < 32)) = true then
  if (decide (n1 < (IntKind.i64.wrap (32 - s_1.2)))) = true then
  callK Tryz.prog .bool F.ref01_bit #[(.int .u32 x0), (.int .i64 (IntKind.i64.wrap (s_1.2 + n1)))] (fun (v_3 : Bool) (h : Heap) =>
  callK Tryz.prog (.int .u32) F.ref01_place #[(.int .i64 s_1.2), (.bool v_3)] (fun (v_4 : Int) (h : Heap) =>
  X_2 (IntKind.u32.wrap (s_1.1 + v_4), IntKind.i64.wrap (s_1.2 + 1)) h) h) h
  else
  callK Tryz.prog (.int .u32) F.ref01_place #[(.int .i64 s_1.2), (.bool false)] (fun (v_5 : Int) (h : Heap) =>
  X_2 (IntKind.u32.wrap (s_1.1 + v_5), IntKind.i64.wrap (s_1.2 + 1)) h) h
  else
  R (.int .u32 s_1.1) h) (0, 0) h
def ref01_Shift.ann : Ann := (.seq .leaf (.seq (.seq .leaf (.cond (.seq .leaf .leaf) .leaf)) (.seq .leaf (.seq (.seq .leaf (.block (.loop [(5, (.int .u32)), (6, (.int .i64))] (.seq (.seq .leaf (.cond .leaf .leaf)) (.seq (.block .leaf) .leaf))))) (.seq .leaf .leaf)))))
theorem ref01_Shift.eq (x0 : Int) (n1 : Int) (R : Value → Heap → Prop) (h : Heap) : ref01_Shift.body x0 n1 R h = evFn Tryz.prog Tryz.f129 ref01_Shift.ann [(.int .u32 x0), (.int .i64 n1)] R h := by kernel_rfl
theorem ref01_Shift.calls {x0 : Int} {n1 : Int} {R : Value → Heap → Prop} {h : Heap} (H : ref01_Shift.body x0 n1 R h) : HC Tryz.prog F.ref01_Shift #[(.int .u32 x0), (.int .i64 n1)] R h :=
  evFn_sound mixed Tryz.func129 (by kernel_rfl) (ref01_Shift.eq x0 n1 R h ▸ H)

/-! zugzwang/zugzwangref02.small -/
def ref02_small.body (x0 : Int) (i1 : Int) (j2 : Int) (k3 : Int) (R : Value → Heap → Prop) (h : Heap) : Prop :=
  newSlK h 2 #[(.int .i64 i1), (.int .i64 j2)] T.int (fun (v_1 : Sl) (h : Heap) =>
  callK Tryz.prog (.int .u32) F.ref01_Mix #[(.int .u32 x0), (.slice v_1.a v_1.n v_1.c)] (fun (v_2 : Int) (h : Heap) =>
  callK Tryz.prog (.int .u32) F.ref01_Shift #[(.int .u32 x0), (.int .i64 k3)] (fun (v_3 : Int) (h : Heap) =>
  R (.int .u32 (IntKind.u32.wrap (BitVec.ofInt (IntKind.bits .u32) v_2 ^^^ BitVec.ofInt (IntKind.bits .u32) v_3).toNat)) h) h) h)
def ref02_small.ann : Ann := (.seq .leaf (.seq .leaf .leaf))
theorem ref02_small.eq (x0 : Int) (i1 : Int) (j2 : Int) (k3 : Int) (R : Value → Heap → Prop) (h : Heap) : ref02_small.body x0 i1 j2 k3 R h = evFn Tryz.prog Tryz.f118 ref02_small.ann [(.int .u32 x0), (.int .i64 i1), (.int .i64 j2), (.int .i64 k3)] R h := by kernel_rfl
theorem ref02_small.calls {x0 : Int} {i1 : Int} {j2 : Int} {k3 : Int} {R : Value → Heap → Prop} {h : Heap} (H : ref02_small.body x0 i1 j2 k3 R h) : HC Tryz.prog F.ref02_small #[(.int .u32 x0), (.int .i64 i1), (.int .i64 j2), (.int .i64 k3)] R h :=
  evFn_sound mixed Tryz.func118 (by kernel_rfl) (ref02_small.eq x0 i1 j2 k3 R h ▸ H)

/-! zugzwang/zugzwangref02.schedule -/
def ref02_schedule.body (block0 : Sl) (R : Value → Heap → Prop) (h : Heap) : Prop :=
  callK Tryz.prog (Kd.pair .slice (.int .i64)) F.ref01_Words #[(.slice block0.a block0.n block0.c)] (fun (v_1 : Sl × Int) (h : Heap) =>
  loopW (fun X_3 (s_2 : Sl × Int) (h : Heap) =>
  if (decide (s_2.2 < 64)) = true then
  idxK s_2.1 (IntKind.i64.wrap (s_2.2 - 16)) (sizeOfT Tryz.prog T.uint32) (fun (a_4 : Addr) =>
  idxK s_2.1 (IntKind.i64.wrap (s_2.2 - 15)) (sizeOfT Tryz.prog T.uint32) (fun (a_5 : Addr) =>
  idxK s_2.1 (IntKind.i64.wrap (s_2.2 - 7)) (sizeOfT Tryz.prog T.uint32) (fun (a_6 : Addr) =>
  idxK s_2.1 (IntKind.i64.wrap (s_2.2 - 2)) (sizeOfT Tryz.prog T.uint32) (fun (a_7 : Addr) =>
  loadK (.int .u32) h ((some a_4)) (fun (v_8 : Int) =>
  loadK (.int .u32) h ((some a_5)) (fun (v_9 : Int) =>
  loadK (.int .u32) h ((some a_6)) (fun (v_10 : Int) =>
  loadK (.int .u32) h ((some a_7)) (fun (v_11 : Int) =>
  callK Tryz.prog (.int .u32) F.ref02_small #[(.int .u32 v_9), (.int .i64 7), (.int .i64 18), (.int .i64 3)] (fun (v_12 : Int) (h : Heap) =>
  stillK (.int .u32) h ((some a_7)) v_11 ∧
  stillK (.int .u32) h ((some a_6)) v_10 ∧
  stillK (.int .u32) h ((some a_4)) v_8 ∧
  callK Tryz.prog (.int .u32) F.ref02_small #[(.int .u32 v_11), (.int .i64 17), (.int .i64 19), (.int .i64 10)] (fun (v_13 : Int) (h : Heap) =>
  stillK (.int .u32) h ((some a_6)) v_10 ∧
  stillK (.int .u32) h ((some a_4)) v_8 ∧
  newSlK h 4 #[(.int .u32 v_8), (.int .u32 v_12), (.int .u32 v_10), (.int .u32 v_13)] T.uint32 (fun (v_14 : Sl) (h : Heap) =>
  callK Tryz.prog (.int .u32) F.ref01_Sum #[(.slice v_14.a v_14.n v_14.c)] (fun (v_15 : Int) (h : Heap) =>
  newSlK h 1 #[(.int .u32 v_15)] T.uint32 (fun (v_16 : Sl) (h : Heap) =>
  opK Tryz.prog .slice (Builtin.append_ #[T.sl_uint32, T.sl_uint32] T.sl_uint32 #[(.slice s_2.1.a s_2.1.n s_2.1.c), (.slice v_16.a v_16.n v_16.c)]) (fun (v_17 : Sl) (h : Heap) =>
  X_3 (v_17, IntKind.i64.wrap (s_2.2 + 1)) h) h)) h)) h) h))))))))
  else
  R (.slice s_2.1.a s_2.1.n s_2.1.c) h) (v_1.1, 16) h) h
def ref02_schedule.ann : Ann := (.seq .leaf (.seq .leaf (.seq (.seq .leaf (.block (.loop [(3, .slice), (5, (.int .i64))] (.seq (.seq .leaf (.cond .leaf .leaf)) (.seq (.block (.any (.loc 0 (.loc 1 (.loc 2 (.loc 3 (.loc 4 (.loc 6 (.loc 7 (.loc 8 (.loc 9 (.loc 12 (.loc 13 (.loc 14 (.loc 15 (.loc 17 (.loc 18 (.loc 19 (.loc 20 (.st 5 260046848 (.st 10 264243200 (.st 16 260046848 (.st 21 264241152 (.last 11 (.last 22 (.last 23 (.last 24 (.last 25 (.last 26 (.loc 27 .done)))))))))))))))))))))))))))))) .leaf))))) (.seq .leaf .leaf))))
theorem ref02_schedule.eq (block0 : Sl) (R : Value → Heap → Prop) (h : Heap) : ref02_schedule.body block0 R h = evFn Tryz.prog Tryz.f90 ref02_schedule.ann [(.slice block0.a block0.n block0.c)] R h := by kernel_rfl
theorem ref02_schedule.calls {block0 : Sl} {R : Value → Heap → Prop} {h : Heap} (H : ref02_schedule.body block0 R h) : HC Tryz.prog F.ref02_schedule #[(.slice block0.a block0.n block0.c)] R h :=
  evFn_sound mixed Tryz.func90 (by kernel_rfl) (ref02_schedule.eq block0 R h ▸ H)

/-! zugzwang/zugzwangref01.Choose -/
def ref01_Choose.body (x0 : Int) (a1 : Int) (b2 : Int) (R : Value → Heap → Prop) (h : Heap) : Prop :=
  loopW (fun X_2 (s_1 : Int × Int) (h : Heap) =>
  if (decide (s_1.2 < 32)) = true then
  callK Tryz.prog .bool F.ref01_bit #[(.int .u32 x0), (.int .i64 s_1.2)] (fun (v_3 : Bool) (h : Heap) =>
  if v_3 = true then
  callK Tryz.prog .bool F.ref01_bit #[(.int .u32 a1), (.int .i64 s_1.2)] (fun (v_4 : Bool) (h : Heap) =>
  if v_4 = true then
  callK Tryz.prog (.int .u32) F.ref01_place #[(.int .i64 s_1.2), (.bool true)] (fun (v_5 : Int) (h : Heap) =>
  X_2 (IntKind.u32.wrap (s_1.1 + v_5), IntKind.i64.wrap (s_1.2 + 1)) h) h
  else
  callK Tryz.prog .bool F.ref01_bit #[(.int .u32 x0), (.int .i64 s_1.2)] (fun (v_6 : Bool) (h : Heap) =>
  if (!v_6) = true then
  callK Tryz.prog .bool F.ref01_bit #[(.int .u32 b2), (.int .i64 s_1.2)] (fun (v_7 : Bool) (h : Heap) =>
  callK Tryz.prog (.int .u32) F.ref01_place #[(.int .i64 s_1.2), (.bool v_7)] (fun (v_8 : Int) (h : Heap) =>
  X_2 (IntKind.u32.wrap (s_1.1 + v_8), IntKind.i64.wrap (s_1.2 + 1)) h) h) h
  else
  callK Tryz.prog (.int .u32) F.ref01_place #[(.int .i64 s_1.2), (.bool false)] (fun (v_9 : Int) (h : Heap) =>
  X_2 (IntKind.u32.wrap (s_1.1 + v_9), IntKind.i64.wrap (s_1.2 + 1)) h) h) h) h
  else
  callK Tryz.prog .bool F.ref01_bit #[(.int .u32 x0), (.int .i64 s_1.2)] (fun (v_10 : Bool) (h : Heap) =>
  if (!v_10) = true then
  callK Tryz.prog .bool F.ref01_bit #[(.int .u32 b2), (.int .i64 s_1.2)] (fun (v_11 : Bool) (h : Heap) =>
  callK Tryz.prog (.int .u32) F.ref01_place #[(.int .i64 s_1.2), (.bool v_11)] (fun (v_12 : Int) (h : Heap) =>
  X_2 (IntKind.u32.wrap (s_1.1 + v_12), IntKind.i64.wrap (s_1.2 + 1)) h) h) h
  else
  callK Tryz.prog (.int .u32) F.ref01_place #[(.int .i64 s_1.2), (.bool false)] (fun (v_13 : Int) (h : Heap) =>
  X_2 (IntKind.u32.wrap (s_1.1 + v_13), IntKind.i64.wrap (s_1.2 + 1)) h) h) h) h
  else
  R (.int .u32 s_1.1) h) (0, 0) h
def ref01_Choose.ann : Ann := (.seq .leaf (.seq .leaf (.seq (.seq .leaf (.block (.loop [(7, (.int .u32)), (8, (.int .i64))] (.seq (.seq .leaf (.cond .leaf .leaf)) (.seq (.block .leaf) .leaf))))) (.seq .leaf .leaf))))
theorem ref01_Choose.eq (x0 : Int) (a1 : Int) (b2 : Int) (R : Value → Heap → Prop) (h : Heap) : ref01_Choose.body x0 a1 b2 R h = evFn Tryz.prog Tryz.f93 ref01_Choose.ann [(.int .u32 x0), (.int .u32 a1), (.int .u32 b2)] R h := by kernel_rfl
theorem ref01_Choose.calls {x0 : Int} {a1 : Int} {b2 : Int} {R : Value → Heap → Prop} {h : Heap} (H : ref01_Choose.body x0 a1 b2 R h) : HC Tryz.prog F.ref01_Choose #[(.int .u32 x0), (.int .u32 a1), (.int .u32 b2)] R h :=
  evFn_sound mixed Tryz.func93 (by kernel_rfl) (ref01_Choose.eq x0 a1 b2 R h ▸ H)

/-! zugzwang/zugzwangref01.Most -/
def ref01_Most.body (words0 : Sl) (R : Value → Heap → Prop) (h : Heap) : Prop :=
  loopW (fun X_2 (s_1 : Int × Int) (h : Heap) =>
  if (decide (s_1.2 < 32)) = true then
  loopW (fun X_4 (s_3 : Int × Int) (h : Heap) =>
  if (decide (s_3.2 < ((words0.n : Int)))) = true then
  idxK words0 s_3.2 (sizeOfT Tryz.prog T.uint32) (fun (a_5 : Addr) =>
  loadK (.int .u32) h ((some a_5)) (fun (v_6 : Int) =>
  callK Tryz.prog .bool F.ref01_bit #[(.int .u32 v_6), (.int .i64 s_1.2)] (fun (v_7 : Bool) (h : Heap) =>
  if v_7 = true then
  X_4 (IntKind.i64.wrap (s_3.1 + 1), IntKind.i64.wrap (s_3.2 + 1)) h
  else
  X_4 (IntKind.i64.wrap (s_3.1 - 1), IntKind.i64.wrap (s_3.2 + 1)) h) h))
  else
  callK Tryz.prog (.int .u32) F.ref01_place #[(.int .i64 s_1.2), (.bool (decide (s_3.1 > 0)))] (fun (v_8 : Int) (h : Heap) =>
  X_2 (IntKind.u32.wrap (s_1.1 + v_8), IntKind.i64.wrap (s_1.2 + 1)) h) h) (0, 0) h
  else
  R (.int .u32 s_1.1) h) (0, 0) h
def ref01_Most.ann : Ann := (.seq .leaf (.seq .leaf (.seq (.seq .leaf (.block (.loop [(3, (.int .u32)), (4, (.int .i64))] (.seq (.seq .leaf (.cond .leaf .leaf)) (.seq (.block (.seq .leaf (.seq (.seq .leaf (.block (.loop [(5, (.int .i64)), (6, (.int .i64))] (.seq (.seq .leaf (.cond .leaf .leaf)) (.seq (.block (.seq .leaf (.cond .leaf .leaf))) .leaf))))) .leaf))) .leaf))))) (.seq .leaf .leaf))))
theorem ref01_Most.eq (words0 : Sl) (R : Value → Heap → Prop) (h : Heap) : ref01_Most.body words0 R h = evFn Tryz.prog Tryz.f94 ref01_Most.ann [(.slice words0.a words0.n words0.c)] R h := by kernel_rfl
theorem ref01_Most.calls {words0 : Sl} {R : Value → Heap → Prop} {h : Heap} (H : ref01_Most.body words0 R h) : HC Tryz.prog F.ref01_Most #[(.slice words0.a words0.n words0.c)] R h :=
  evFn_sound mixed Tryz.func94 (by kernel_rfl) (ref01_Most.eq words0 R h ▸ H)

/-! zugzwang/zugzwangref01.Bytes -/
def ref01_Bytes.body (words0 : Sl) (R : Value → Heap → Prop) (h : Heap) : Prop :=
  loopW (fun X_2 (s_1 : Sl × Int) (h : Heap) =>
  if (decide (s_1.2 < ((words0.n : Int)))) = true then
  loopW (fun X_4 (s_3 : Sl × Int) (h : Heap) =>
  if (decide (s_3.2 ≥ 0)) = true then
  idxK words0 s_1.2 (sizeOfT Tryz.prog T.uint32) (fun (a_5 : Addr) =>
  loadK (.int .u32) h ((some a_5)) (fun (v_6 : Int) =>
  shiftK (IntKind.i64.wrap (8 * s_3.2))
  (divK 256
  (newSlK h 1 #[(.int .u8 (IntKind.u8.wrap (Int.tmod (Int.fdiv v_6 (2 ^ min (Int.toNat (IntKind.i64.wrap (8 * s_3.2))) (IntKind.bits .u32))) 256)))] T.uint8 (fun (v_7 : Sl) (h : Heap) =>
  opK Tryz.prog .slice (Builtin.append_ #[T.sl_uint8, T.sl_uint8] T.sl_uint8 #[(.slice s_3.1.a s_3.1.n s_3.1.c), (.slice v_7.a v_7.n v_7.c)]) (fun (v_8 : Sl) (h : Heap) =>
  X_4 (v_8, IntKind.i64.wrap (s_3.2 - 1)) h) h)))))
  else
  X_2 (s_3.1, IntKind.i64.wrap (s_1.2 + 1)) h) (s_1.1, 3) h
  else
  R (.slice s_1.1.a s_1.1.n s_1.1.c) h) (⟨none, 0, 0⟩, 0) h
def ref01_Bytes.ann : Ann := (.seq .leaf (.seq .leaf (.seq (.seq .leaf (.block (.loop [(3, .slice), (4, (.int .i64))] (.seq (.seq .leaf (.cond .leaf .leaf)) (.seq (.block (.seq .leaf (.block (.loop [(3, .slice), (5, (.int .i64))] (.seq (.seq .leaf (.cond .leaf .leaf)) (.seq (.block .leaf) .leaf)))))) .leaf))))) (.seq .leaf .leaf))))
theorem ref01_Bytes.eq (words0 : Sl) (R : Value → Heap → Prop) (h : Heap) : ref01_Bytes.body words0 R h = evFn Tryz.prog Tryz.f95 ref01_Bytes.ann [(.slice words0.a words0.n words0.c)] R h := by kernel_rfl
theorem ref01_Bytes.calls {words0 : Sl} {R : Value → Heap → Prop} {h : Heap} (H : ref01_Bytes.body words0 R h) : HC Tryz.prog F.ref01_Bytes #[(.slice words0.a words0.n words0.c)] R h :=
  evFn_sound mixed Tryz.func95 (by kernel_rfl) (ref01_Bytes.eq words0 R h ▸ H)

/-! zugzwang/zugzwangref02.Of -/
def ref02_Of.body (b0 : Sl) (R : Value → Heap → Prop) (h : Heap) : Prop :=
  newK h (zerosOf Tryz.prog T.api_Tag) T.api_Tag (fun (v_1 : Option Addr) (h : Heap) =>
  callK Tryz.prog .slice F.ref02_filled #[(.slice b0.a b0.n b0.c)] (fun (v_2 : Sl) (h : Heap) =>
  callK Tryz.prog .slice F.ref02_constants #[] (fun (v_3 : Sl) (h : Heap) =>
  callK Tryz.prog .slice F.ref02_begin #[] (fun (v_4 : Sl) (h : Heap) =>
  loopW (fun X_6 (s_5 : Int) (h : Heap) =>
  if (decide (s_5 < ((v_2.n : Int)))) = true then
  sliceK v_2 (some s_5) (some (IntKind.i64.wrap (s_5 + 64))) none (sizeOfT Tryz.prog T.uint8) (fun (v_7 : Sl) =>
  callK Tryz.prog .slice F.ref02_schedule #[(.slice v_7.a v_7.n v_7.c)] (fun (v_8 : Sl) (h : Heap) =>
  newSlK h 0 #[] T.uint32 (fun (v_9 : Sl) (h : Heap) =>
  opK Tryz.prog .slice (Builtin.append_ #[T.sl_uint32, T.sl_uint32] T.sl_uint32 #[(.slice v_9.a v_9.n v_9.c), (.slice v_4.a v_4.n v_4.c)]) (fun (v_10 : Sl) (h : Heap) =>
  loopW (fun X_12 (s_11 : Sl × Int) (h : Heap) =>
  if (decide (s_11.2 < 64)) = true then
  idxK s_11.1 7 (sizeOfT Tryz.prog T.uint32) (fun (a_13 : Addr) =>
  idxK s_11.1 4 (sizeOfT Tryz.prog T.uint32) (fun (a_14 : Addr) =>
  idxK s_11.1 4 (sizeOfT Tryz.prog T.uint32) (fun (a_15 : Addr) =>
  idxK s_11.1 5 (sizeOfT Tryz.prog T.uint32) (fun (a_16 : Addr) =>
  idxK s_11.1 6 (sizeOfT Tryz.prog T.uint32) (fun (a_17 : Addr) =>
  idxK v_3 s_11.2 (sizeOfT Tryz.prog T.uint32) (fun (a_18 : Addr) =>
  idxK v_8 s_11.2 (sizeOfT Tryz.prog T.uint32) (fun (a_19 : Addr) =>
  loadK (.int .u32) h ((some a_13)) (fun (v_20 : Int) =>
  loadK (.int .u32) h ((some a_14)) (fun (v_21 : Int) =>
  loadK (.int .u32) h ((some a_15)) (fun (v_22 : Int) =>
  loadK (.int .u32) h ((some a_16)) (fun (v_23 : Int) =>
  loadK (.int .u32) h ((some a_17)) (fun (v_24 : Int) =>
  loadK (.int .u32) h ((some a_18)) (fun (v_25 : Int) =>
  loadK (.int .u32) h ((some a_19)) (fun (v_26 : Int) =>
  newSlK h 3 #[(.int .i64 6), (.int .i64 11), (.int .i64 25)] T.int (fun (v_27 : Sl) (h : Heap) =>
  callK Tryz.prog (.int .u32) F.ref01_Mix #[(.int .u32 v_21), (.slice v_27.a v_27.n v_27.c)] (fun (v_28 : Int) (h : Heap) =>
  stillK (.int .u32) h ((some a_19)) v_26 ∧
  stillK (.int .u32) h ((some a_18)) v_25 ∧
  stillK (.int .u32) h ((some a_17)) v_24 ∧
  stillK (.int .u32) h ((some a_16)) v_23 ∧
  stillK (.int .u32) h ((some a_15)) v_22 ∧
  stillK (.int .u32) h ((some a_13)) v_20 ∧
  callK Tryz.prog (.int .u32) F.ref01_Choose #[(.int .u32 v_22), (.int .u32 v_23), (.int .u32 v_24)] (fun (v_29 : Int) (h : Heap) =>
  stillK (.int .u32) h ((some a_19)) v_26 ∧
  stillK (.int .u32) h ((some a_18)) v_25 ∧
  stillK (.int .u32) h ((some a_13)) v_20 ∧
  newSlK h 5 #[(.int .u32 v_20), (.int .u32 v_28), (.int .u32 v_29), (.int .u32 v_25), (.int .u32 v_26)] T.uint32 (fun (v_30 : Sl) (h : Heap) =>
  callK Tryz.prog (.int .u32) F.ref01_Sum #[(.slice v_30.a v_30.n v_30.c)] (fun (v_31 : Int) (h : Heap) =>
  idxK s_11.1 0 (sizeOfT Tryz.prog T.uint32) (fun (a_32 : Addr) =>
  sliceK s_11.1 none (some 3) none (sizeOfT Tryz.prog T.uint32) (fun (v_33 : Sl) =>
  loadK (.int .u32) h ((some a_32)) (fun (v_34 : Int) =>
  newSlK h 3 #[(.int .i64 2), (.int .i64 13), (.int .i64 22)] T.int (fun (v_35 : Sl) (h : Heap) =>
  callK Tryz.prog (.int .u32) F.ref01_Mix #[(.int .u32 v_34), (.slice v_35.a v_35.n v_35.c)] (fun (v_36 : Int) (h : Heap) =>
  callK Tryz.prog (.int .u32) F.ref01_Most #[(.slice v_33.a v_33.n v_33.c)] (fun (v_37 : Int) (h : Heap) =>
  newSlK h 2 #[(.int .u32 v_36), (.int .u32 v_37)] T.uint32 (fun (v_38 : Sl) (h : Heap) =>
  callK Tryz.prog (.int .u32) F.ref01_Sum #[(.slice v_38.a v_38.n v_38.c)] (fun (v_39 : Int) (h : Heap) =>
  idxK s_11.1 0 (sizeOfT Tryz.prog T.uint32) (fun (a_40 : Addr) =>
  idxK s_11.1 1 (sizeOfT Tryz.prog T.uint32) (fun (a_41 : Addr) =>
  idxK s_11.1 2 (sizeOfT Tryz.prog T.uint32) (fun (a_42 : Addr) =>
  idxK s_11.1 3 (sizeOfT Tryz.prog T.uint32) (fun (a_43 : Addr) =>
  idxK s_11.1 4 (sizeOfT Tryz.prog T.uint32) (fun (a_44 : Addr) =>
  idxK s_11.1 5 (sizeOfT Tryz.prog T.uint32) (fun (a_45 : Addr) =>
  idxK s_11.1 6 (sizeOfT Tryz.prog T.uint32) (fun (a_46 : Addr) =>
  loadK (.int .u32) h ((some a_40)) (fun (v_47 : Int) =>
  loadK (.int .u32) h ((some a_41)) (fun (v_48 : Int) =>
  loadK (.int .u32) h ((some a_42)) (fun (v_49 : Int) =>
  loadK (.int .u32) h ((some a_43)) (fun (v_50 : Int) =>
  loadK (.int .u32) h ((some a_44)) (fun (v_51 : Int) =>
  loadK (.int .u32) h ((some a_45)) (fun (v_52 : Int) =>
  loadK (.int .u32) h ((some a_46)) (fun (v_53 : Int) =>
  newSlK h 8 #[(.int .u32 (IntKind.u32.wrap (v_31 + v_39))), (.int .u32 v_47), (.int .u32 v_48), (.int .u32 v_49), (.int .u32 (IntKind.u32.wrap (v_50 + v_31))), (.int .u32 v_51), (.int .u32 v_52), (.int .u32 v_53)] T.uint32 (fun (v_54 : Sl) (h : Heap) =>
  X_12 (v_54, IntKind.i64.wrap (s_11.2 + 1)) h)))))))))))))))) h)) h) h))))) h)) h) h)))))))))))))))
  else
  loopW (fun X_56 (s_55 : Int) (h : Heap) =>
  if (decide (s_55 < 8)) = true then
  idxK v_4 s_55 (sizeOfT Tryz.prog T.uint32) (fun (a_57 : Addr) =>
  idxK s_11.1 s_55 (sizeOfT Tryz.prog T.uint32) (fun (a_58 : Addr) =>
  loadK (.int .u32) h ((some a_57)) (fun (v_59 : Int) =>
  loadK (.int .u32) h ((some a_58)) (fun (v_60 : Int) =>
  idxK v_4 s_55 (sizeOfT Tryz.prog T.uint32) (fun (a_61 : Addr) =>
  storeK h ((some a_61)) (.int .u32 (IntKind.u32.wrap (v_59 + v_60))) (fun (h : Heap) =>
  X_56 (IntKind.i64.wrap (s_55 + 1)) h))))))
  else
  X_6 (IntKind.i64.wrap (s_5 + 64)) h) 0 h) (v_10, 0) h) h)) h)
  else
  newK h (zerosOf Tryz.prog T.api_Tag) T.api_Tag (fun (out_62 : Option Addr) (h : Heap) =>
  callK Tryz.prog .slice F.ref01_Bytes #[(.slice v_4.a v_4.n v_4.c)] (fun (v_63 : Sl) (h : Heap) =>
  loopW (fun X_65 (s_64 : Int) (h : Heap) =>
  if (decide (s_64 < 32)) = true then
  idxK v_63 s_64 (sizeOfT Tryz.prog T.uint8) (fun (a_66 : Addr) =>
  loadK (.int .u8) h ((some a_66)) (fun (v_67 : Int) =>
  idxArrK out_62 32 s_64 (sizeOfT Tryz.prog T.uint8) (fun (a_68 : Addr) =>
  storeK h ((some a_68)) (.int .u8 v_67) (fun (h : Heap) =>
  X_65 (IntKind.i64.wrap (s_64 + 1)) h))))
  else
  loadAggK (sizeOfT Tryz.prog T.api_Tag) h out_62 (fun (v_69 : Array Value) =>
  storeAggK (sizeOfT Tryz.prog T.api_Tag) h v_1 v_69 (fun (h : Heap) =>
  quietK Tryz.prog .agg (Instr.loadAt T.api_Tag (.pointer v_1)) (fun (r_70 : Array Value) =>
  R (.agg r_70) h) h))) 0 h) h)) 0 h) h) h) h)
def ref02_Of.ann : Ann := (.seq .leaf (.seq .leaf (.seq .leaf (.seq .leaf (.seq (.seq .leaf (.block (.loop [(6, (.int .i64))] (.seq (.seq .leaf (.cond .leaf .leaf)) (.seq (.block (.seq .leaf (.seq .leaf (.seq (.seq .leaf (.block (.loop [(8, .slice), (9, (.int .i64))] (.seq (.seq .leaf (.cond .leaf .leaf)) (.seq (.block (.seq (.any (.loc 0 (.loc 1 (.loc 3 (.loc 4 (.loc 8 (.loc 9 (.loc 11 (.loc 12 (.loc 14 (.loc 15 (.loc 18 (.loc 19 (.loc 20 (.loc 22 (.loc 23 (.loc 24 (.st 2 469762048 (.st 5 469893248 (.st 10 469893120 (.st 13 469893120 (.st 16 469893120 (.st 21 469762048 (.st 25 469762048 (.last 6 (.last 7 (.last 17 (.last 26 (.last 27 (.loc 28 .done)))))))))))))))))))))))))))))) (.seq (.any (.loc 0 (.loc 1 (.loc 5 (.loc 6 (.st 2 1936 (.last 3 (.last 4 (.last 7 (.last 8 (.last 9 (.loc 10 .done)))))))))))) (.any (.loc 0 (.loc 1 (.loc 2 (.loc 3 (.loc 4 (.loc 6 (.loc 7 (.loc 9 (.loc 10 (.loc 12 (.loc 13 (.loc 15 (.loc 17 (.loc 18 (.loc 20 (.loc 21 (.loc 23 (.loc 24 (.st 5 201326592 (.st 8 201326592 (.st 11 201326592 (.st 14 201392128 (.loc 16 (.st 19 201326592 (.st 22 201326592 (.st 25 201326592 (.last 26 (.loc 27 .done)))))))))))))))))))))))))))))))) .leaf))))) (.seq .leaf (.block (.loop [(12, (.int .i64))] (.seq (.seq .leaf (.cond .leaf .leaf)) (.seq (.block (.any (.loc 0 (.loc 1 (.loc 2 (.loc 3 (.loc 4 (.loc 6 (.loc 7 (.loc 8 (.st 5 7168 (.st 9 7168 (.loc 10 (.loc 11 (.last 12 .done))))))))))))))) .leaf))))))))) .leaf))))) (.seq .leaf (.seq .leaf (.seq (.seq .leaf (.block (.loop [(14, (.int .i64))] (.seq (.seq .leaf (.cond .leaf .leaf)) (.seq (.block .leaf) .leaf))))) (.seq .leaf .leaf)))))))))
theorem ref02_Of.eq (b0 : Sl) (R : Value → Heap → Prop) (h : Heap) : ref02_Of.body b0 R h = evFn Tryz.prog Tryz.f70 ref02_Of.ann [(.slice b0.a b0.n b0.c)] R h := by kernel_rfl
theorem ref02_Of.calls {b0 : Sl} {R : Value → Heap → Prop} {h : Heap} (H : ref02_Of.body b0 R h) : HC Tryz.prog F.ref02_Of #[(.slice b0.a b0.n b0.c)] R h :=
  evFn_sound mixed Tryz.func70 (by kernel_rfl) (ref02_Of.eq b0 R h ▸ H)

/-! zugzwang/zugzwangref04.eight -/
def ref04_eight.body (n0 : Int) (R : Value → Heap → Prop) (h : Heap) : Prop :=
  loopW (fun X_2 (s_1 : Sl × Int) (h : Heap) =>
  if (decide (s_1.2 ≥ 0)) = true then
  shiftK (IntKind.i64.wrap (8 * s_1.2))
  (newSlK h 1 #[(.int .u8 (IntKind.u8.wrap (Int.fdiv (IntKind.u64.wrap n0) (2 ^ min (Int.toNat (IntKind.i64.wrap (8 * s_1.2))) (IntKind.bits .u64)))))] T.uint8 (fun (v_3 : Sl) (h : Heap) =>
  opK Tryz.prog .slice (Builtin.append_ #[T.sl_uint8, T.sl_uint8] T.sl_uint8 #[(.slice s_1.1.a s_1.1.n s_1.1.c), (.slice v_3.a v_3.n v_3.c)]) (fun (v_4 : Sl) (h : Heap) =>
  X_2 (v_4, IntKind.i64.wrap (s_1.2 - 1)) h) h))
  else
  R (.slice s_1.1.a s_1.1.n s_1.1.c) h) (⟨none, 0, 0⟩, 7) h
def ref04_eight.ann : Ann := (.seq .leaf (.seq .leaf (.seq (.seq .leaf (.block (.loop [(3, .slice), (4, (.int .i64))] (.seq (.seq .leaf (.cond .leaf .leaf)) (.seq (.block .leaf) .leaf))))) (.seq .leaf .leaf))))
theorem ref04_eight.eq (n0 : Int) (R : Value → Heap → Prop) (h : Heap) : ref04_eight.body n0 R h = evFn Tryz.prog Tryz.f122 ref04_eight.ann [(.int .i64 n0)] R h := by kernel_rfl
theorem ref04_eight.calls {n0 : Int} {R : Value → Heap → Prop} {h : Heap} (H : ref04_eight.body n0 R h) : HC Tryz.prog F.ref04_eight #[(.int .i64 n0)] R h :=
  evFn_sound mixed Tryz.func122 (by kernel_rfl) (ref04_eight.eq n0 R h ▸ H)

/-! zugzwang/zugzwangref04.Number -/
def ref04_Number.body (n0 : Int) (R : Value → Heap → Prop) (h : Heap) : Prop :=
  newK h (zerosOf Tryz.prog T.api_Tag) T.api_Tag (fun (v_1 : Option Addr) (h : Heap) =>
  newK h (zerosOf Tryz.prog T.api_Tag) T.api_Tag (fun (t_2 : Option Addr) (h : Heap) =>
  newSlK h 8 #[(.int .u8 122), (.int .u8 117), (.int .u8 103), (.int .u8 122), (.int .u8 119), (.int .u8 97), (.int .u8 110), (.int .u8 103)] T.uint8 (fun (v_3 : Sl) (h : Heap) =>
  opK Tryz.prog .slice (convert T.sl_uint8 T.sl_uint8 (.slice v_3.a v_3.n v_3.c)) (fun (v_4 : Sl) (h : Heap) =>
  callK Tryz.prog .slice F.ref04_eight #[(.int .i64 n0)] (fun (v_5 : Sl) (h : Heap) =>
  opK Tryz.prog .slice (Builtin.append_ #[T.sl_uint8, T.sl_uint8] T.sl_uint8 #[(.slice v_4.a v_4.n v_4.c), (.slice v_5.a v_5.n v_5.c)]) (fun (v_6 : Sl) (h : Heap) =>
  loopW (fun X_8 (s_7 : Int) (h : Heap) =>
  if (decide (s_7 < ((v_6.n : Int)))) = true then
  idxK v_6 s_7 (sizeOfT Tryz.prog T.uint8) (fun (a_9 : Addr) =>
  loadK (.int .u8) h ((some a_9)) (fun (v_10 : Int) =>
  idxArrK t_2 32 s_7 (sizeOfT Tryz.prog T.uint8) (fun (a_11 : Addr) =>
  storeK h ((some a_11)) (.int .u8 v_10) (fun (h : Heap) =>
  X_8 (IntKind.i64.wrap (s_7 + 1)) h))))
  else
  loadAggK (sizeOfT Tryz.prog T.api_Tag) h t_2 (fun (v_12 : Array Value) =>
  storeAggK (sizeOfT Tryz.prog T.api_Tag) h v_1 v_12 (fun (h : Heap) =>
  quietK Tryz.prog .agg (Instr.loadAt T.api_Tag (.pointer v_1)) (fun (r_13 : Array Value) =>
  R (.agg r_13) h) h))) 0 h) h) h) h)))
def ref04_Number.ann : Ann := (.seq .leaf (.seq .leaf (.seq .leaf (.seq (.seq .leaf (.block (.loop [(5, (.int .i64))] (.seq (.seq .leaf (.cond .leaf .leaf)) (.seq (.block .leaf) .leaf))))) (.seq .leaf .leaf)))))
theorem ref04_Number.eq (n0 : Int) (R : Value → Heap → Prop) (h : Heap) : ref04_Number.body n0 R h = evFn Tryz.prog Tryz.f96 ref04_Number.ann [(.int .i64 n0)] R h := by kernel_rfl
theorem ref04_Number.calls {n0 : Int} {R : Value → Heap → Prop} {h : Heap} (H : ref04_Number.body n0 R h) : HC Tryz.prog F.ref04_Number #[(.int .i64 n0)] R h :=
  evFn_sound mixed Tryz.func96 (by kernel_rfl) (ref04_Number.eq n0 R h ▸ H)

/-! (*zugzwang/zugzwangref04.Maker).ask -/
def ref04_Maker_ask.body (m0 : Option Addr) (x1 : Array Value) (R : Value → Heap → Prop) (h : Heap) : Prop :=
  newK h x1 T.zugzwangref04_Thing (fun (x_1 : Option Addr) (h : Heap) =>
  newK h (zerosOf Tryz.prog T.api_Tag) T.api_Tag (fun (v_2 : Option Addr) (h : Heap) =>
  loopW (fun X_4 (s_3 : Int) (h : Heap) =>
  derefK m0 (fun (a_5 : Addr) =>
  fldK ((some a_5)) 2 (fun (a_6 : Addr) =>
  loadK .slice h ((some a_6)) (fun (v_7 : Sl) =>
  if (decide (s_3 < ((v_7.n : Int)))) = true then
  derefK m0 (fun (a_8 : Addr) =>
  fldK ((some a_8)) 2 (fun (a_9 : Addr) =>
  loadK .slice h ((some a_9)) (fun (v_10 : Sl) =>
  idxK v_10 s_3 (sizeOfT Tryz.prog T.zugzwangref04_Thing) (fun (a_11 : Addr) =>
  loadAggK (sizeOfT Tryz.prog T.zugzwangref04_Thing) h ((some a_11)) (fun (v_12 : Array Value) =>
  loadAggK (sizeOfT Tryz.prog T.zugzwangref04_Thing) h x_1 (fun (v_13 : Array Value) =>
  eqK Tryz.prog (binSem .eql T.zugzwangref04_Thing (.tmp 21) (.tmp 22) (.agg v_12) (.agg v_13)) (fun (v_14 : Bool) =>
  if v_14 = true then
  callK Tryz.prog .agg F.ref04_Number #[(.int .i64 s_3)] (fun (v_15 : Array Value) (h : Heap) =>
  storeAggK (sizeOfT Tryz.prog T.api_Tag) h v_2 v_15 (fun (h : Heap) =>
  quietK Tryz.prog .agg (Instr.loadAt T.api_Tag (.pointer v_2)) (fun (r_16 : Array Value) =>
  R (.agg r_16) h) h)) h
  else
  X_4 (IntKind.i64.wrap (s_3 + 1)) h)))))))
  else
  derefK m0 (fun (a_17 : Addr) =>
  fldK ((some a_17)) 2 (fun (a_18 : Addr) =>
  loadK .slice h ((some a_18)) (fun (v_19 : Sl) =>
  loadAggK (sizeOfT Tryz.prog T.zugzwangref04_Thing) h x_1 (fun (v_20 : Array Value) =>
  opK Tryz.prog .slice (Instr.buildSlice T.sl_zugzwangref04_Thing 1 #[(0, (.agg v_20))]) (fun (v_21 : Sl) (h : Heap) =>
  opK Tryz.prog .slice (Builtin.append_ #[T.sl_zugzwangref04_Thing, T.sl_zugzwangref04_Thing] T.sl_zugzwangref04_Thing #[(.slice v_19.a v_19.n v_19.c), (.slice v_21.a v_21.n v_21.c)]) (fun (v_22 : Sl) (h : Heap) =>
  derefK m0 (fun (a_23 : Addr) =>
  fldK ((some a_23)) 2 (fun (a_24 : Addr) =>
  storeK h ((some a_24)) (.slice v_22.a v_22.n v_22.c) (fun (h : Heap) =>
  derefK m0 (fun (a_25 : Addr) =>
  fldK ((some a_25)) 2 (fun (a_26 : Addr) =>
  loadK .slice h ((some a_26)) (fun (v_27 : Sl) =>
  callK Tryz.prog .agg F.ref04_Number #[(.int .i64 (IntKind.i64.wrap (((v_27.n : Int)) - 1)))] (fun (v_28 : Array Value) (h : Heap) =>
  storeAggK (sizeOfT Tryz.prog T.api_Tag) h v_2 v_28 (fun (h : Heap) =>
  quietK Tryz.prog .agg (Instr.loadAt T.api_Tag (.pointer v_2)) (fun (r_29 : Array Value) =>
  R (.agg r_29) h) h)) h))))))) h) h)))))))) 0 h))
def ref04_Maker_ask.ann : Ann := (.seq .leaf (.seq (.seq .leaf (.block (.loop [(5, (.int .i64))] (.seq (.seq .leaf (.cond .leaf .leaf)) (.seq (.block (.seq .leaf (.cond (.seq .leaf .leaf) .leaf))) .leaf))))) (.seq (.any (.loc 0 (.loc 1 (.loc 2 (.loc 3 (.st 4 1920 (.st 5 1984 (.last 6 (.last 7 (.loc 8 (.loc 9 (.last 10 .done)))))))))))) (.seq .leaf .leaf))))
theorem ref04_Maker_ask.eq (m0 : Option Addr) (x1 : Array Value) (R : Value → Heap → Prop) (h : Heap) : ref04_Maker_ask.body m0 x1 R h = evFn Tryz.prog Tryz.f71 ref04_Maker_ask.ann [(.pointer m0), (.agg x1)] R h := by kernel_rfl
theorem ref04_Maker_ask.calls {m0 : Option Addr} {x1 : Array Value} {R : Value → Heap → Prop} {h : Heap} (H : ref04_Maker_ask.body m0 x1 R h) : HC Tryz.prog F.ref04_Maker_ask #[(.pointer m0), (.agg x1)] R h :=
  evFn_sound mixed Tryz.func71 (by kernel_rfl) (ref04_Maker_ask.eq m0 x1 R h ▸ H)

/-! (*zugzwang/zugzwangref04.Maker).Sum -/
def ref04_Maker_Sum.body (m0 : Option Addr) (b1 : Sl) (R : Value → Heap → Prop) (h : Heap) : Prop :=
  newK h (zerosOf Tryz.prog T.api_Tag) T.api_Tag (fun (v_1 : Option Addr) (h : Heap) =>
  derefK m0 (fun (a_2 : Addr) =>
  fldK ((some a_2)) 0 (fun (a_3 : Addr) =>
  loadK .bool h ((some a_3)) (fun (v_4 : Bool) =>
  if v_4 = true then
  callK Tryz.prog .agg F.ref02_Of #[(.slice b1.a b1.n b1.c)] (fun (v_5 : Array Value) (h : Heap) =>
  storeAggK (sizeOfT Tryz.prog T.api_Tag) h v_1 v_5 (fun (h : Heap) =>
  quietK Tryz.prog .agg (Instr.loadAt T.api_Tag (.pointer v_1)) (fun (r_6 : Array Value) =>
  R (.agg r_6) h) h)) h
  else
  opK Tryz.prog .str (convert T.sl_uint8 T.string (.slice b1.a b1.n b1.c)) (fun (v_7 : ByteArray) (h : Heap) =>
  buildK Tryz.prog (Instr.build T.zugzwangref04_Thing #[(0, (.int .i64 0)), (2, (.string v_7))]) (fun (v_8 : Array Value) =>
  callK Tryz.prog .agg F.ref04_Maker_ask #[(.pointer m0), (.agg v_8)] (fun (v_9 : Array Value) (h : Heap) =>
  storeAggK (sizeOfT Tryz.prog T.api_Tag) h v_1 v_9 (fun (h : Heap) =>
  quietK Tryz.prog .agg (Instr.loadAt T.api_Tag (.pointer v_1)) (fun (r_10 : Array Value) =>
  R (.agg r_10) h) h)) h)) h))))
def ref04_Maker_Sum.ann : Ann := (.seq .leaf (.seq (.seq .leaf (.cond (.seq .leaf .leaf) .leaf)) (.seq .leaf .leaf)))
theorem ref04_Maker_Sum.eq (m0 : Option Addr) (b1 : Sl) (R : Value → Heap → Prop) (h : Heap) : ref04_Maker_Sum.body m0 b1 R h = evFn Tryz.prog Tryz.f58 ref04_Maker_Sum.ann [(.pointer m0), (.slice b1.a b1.n b1.c)] R h := by kernel_rfl
theorem ref04_Maker_Sum.calls {m0 : Option Addr} {b1 : Sl} {R : Value → Heap → Prop} {h : Heap} (H : ref04_Maker_Sum.body m0 b1 R h) : HC Tryz.prog F.ref04_Maker_Sum #[(.pointer m0), (.slice b1.a b1.n b1.c)] R h :=
  evFn_sound mixed Tryz.func58 (by kernel_rfl) (ref04_Maker_Sum.eq m0 b1 R h ▸ H)

/-! zugzwang/zugzwangref20.Tag -/
def ref20_Tag.body (m0 : Option Addr) (e1 : Array Value) (R : Value → Heap → Prop) (h : Heap) : Prop :=
  newK h e1 T.api_Entry (fun (e_1 : Option Addr) (h : Heap) =>
  newK h (zerosOf Tryz.prog T.api_Tag) T.api_Tag (fun (v_2 : Option Addr) (h : Heap) =>
  loadAggK (sizeOfT Tryz.prog T.api_Entry) h e_1 (fun (v_3 : Array Value) =>
  callK Tryz.prog (Kd.pair .slice (.int .i64)) F.ref18_PutEntry #[(.agg v_3)] (fun (v_4 : Sl × Int) (h : Heap) =>
  newSlK h 4 #[(.int .u8 108), (.int .u8 105), (.int .u8 110), (.int .u8 107)] T.uint8 (fun (v_5 : Sl) (h : Heap) =>
  opK Tryz.prog .slice (convert T.sl_uint8 T.sl_uint8 (.slice v_5.a v_5.n v_5.c)) (fun (v_6 : Sl) (h : Heap) =>
  opK Tryz.prog .slice (Builtin.append_ #[T.sl_uint8, T.sl_uint8] T.sl_uint8 #[(.slice v_6.a v_6.n v_6.c), (.slice v_4.1.a v_4.1.n v_4.1.c)]) (fun (v_7 : Sl) (h : Heap) =>
  callK Tryz.prog .agg F.ref04_Maker_Sum #[(.pointer m0), (.slice v_7.a v_7.n v_7.c)] (fun (v_8 : Array Value) (h : Heap) =>
  storeAggK (sizeOfT Tryz.prog T.api_Tag) h v_2 v_8 (fun (h : Heap) =>
  quietK Tryz.prog .agg (Instr.loadAt T.api_Tag (.pointer v_2)) (fun (r_9 : Array Value) =>
  R (.agg r_9) h) h)) h) h) h)) h)))
def ref20_Tag.ann : Ann := (.seq .leaf (.seq .leaf (.seq .leaf .leaf)))
theorem ref20_Tag.eq (m0 : Option Addr) (e1 : Array Value) (R : Value → Heap → Prop) (h : Heap) : ref20_Tag.body m0 e1 R h = evFn Tryz.prog Tryz.f44 ref20_Tag.ann [(.pointer m0), (.agg e1)] R h := by kernel_rfl
theorem ref20_Tag.calls {m0 : Option Addr} {e1 : Array Value} {R : Value → Heap → Prop} {h : Heap} (H : ref20_Tag.body m0 e1 R h) : HC Tryz.prog F.ref20_Tag #[(.pointer m0), (.agg e1)] R h :=
  evFn_sound mixed Tryz.func44 (by kernel_rfl) (ref20_Tag.eq m0 e1 R h ▸ H)

/-! zugzwang/zugzwangref20.Root -/
def ref20_Root.body (m0 : Option Addr) (game1 : Array Value) (R : Value → Heap → Prop) (h : Heap) : Prop :=
  newK h game1 T.api_Tag (fun (game_1 : Option Addr) (h : Heap) =>
  newK h (zerosOf Tryz.prog T.api_Tag) T.api_Tag (fun (v_2 : Option Addr) (h : Heap) =>
  newSlK h 4 #[(.int .u8 114), (.int .u8 111), (.int .u8 111), (.int .u8 116)] T.uint8 (fun (v_3 : Sl) (h : Heap) =>
  opK Tryz.prog .slice (convert T.sl_uint8 T.sl_uint8 (.slice v_3.a v_3.n v_3.c)) (fun (v_4 : Sl) (h : Heap) =>
  loopW (fun X_6 (s_5 : Sl × Int) (h : Heap) =>
  if (decide (s_5.2 < 32)) = true then
  idxArrK game_1 32 s_5.2 (sizeOfT Tryz.prog T.uint8) (fun (a_7 : Addr) =>
  loadK (.int .u8) h ((some a_7)) (fun (v_8 : Int) =>
  newSlK h 1 #[(.int .u8 v_8)] T.uint8 (fun (v_9 : Sl) (h : Heap) =>
  opK Tryz.prog .slice (Builtin.append_ #[T.sl_uint8, T.sl_uint8] T.sl_uint8 #[(.slice s_5.1.a s_5.1.n s_5.1.c), (.slice v_9.a v_9.n v_9.c)]) (fun (v_10 : Sl) (h : Heap) =>
  X_6 (v_10, IntKind.i64.wrap (s_5.2 + 1)) h) h)))
  else
  callK Tryz.prog .agg F.ref04_Maker_Sum #[(.pointer m0), (.slice s_5.1.a s_5.1.n s_5.1.c)] (fun (v_11 : Array Value) (h : Heap) =>
  storeAggK (sizeOfT Tryz.prog T.api_Tag) h v_2 v_11 (fun (h : Heap) =>
  quietK Tryz.prog .agg (Instr.loadAt T.api_Tag (.pointer v_2)) (fun (r_12 : Array Value) =>
  R (.agg r_12) h) h)) h) (v_4, 0) h) h)))
def ref20_Root.ann : Ann := (.seq .leaf (.seq .leaf (.seq (.seq .leaf (.block (.loop [(5, .slice), (6, (.int .i64))] (.seq (.seq .leaf (.cond .leaf .leaf)) (.seq (.block .leaf) .leaf))))) (.seq .leaf .leaf))))
theorem ref20_Root.eq (m0 : Option Addr) (game1 : Array Value) (R : Value → Heap → Prop) (h : Heap) : ref20_Root.body m0 game1 R h = evFn Tryz.prog Tryz.f54 ref20_Root.ann [(.pointer m0), (.agg game1)] R h := by kernel_rfl
theorem ref20_Root.calls {m0 : Option Addr} {game1 : Array Value} {R : Value → Heap → Prop} {h : Heap} (H : ref20_Root.body m0 game1 R h) : HC Tryz.prog F.ref20_Root #[(.pointer m0), (.agg game1)] R h :=
  evFn_sound mixed Tryz.func54 (by kernel_rfl) (ref20_Root.eq m0 game1 R h ▸ H)

/-! (*zugzwang/zugzwangref20.Chain).Head -/
def ref20_Chain_Head.body (c0 : Option Addr) (R : Value → Heap → Prop) (h : Heap) : Prop :=
  newK h (zerosOf Tryz.prog T.api_Tag) T.api_Tag (fun (v_1 : Option Addr) (h : Heap) =>
  derefK c0 (fun (a_2 : Addr) =>
  fldK ((some a_2)) 33 (fun (a_3 : Addr) =>
  loadK .slice h ((some a_3)) (fun (v_4 : Sl) =>
  if (((v_4.n : Int)) == 0) = true then
  derefK c0 (fun (a_5 : Addr) =>
  fldK ((some a_5)) 0 (fun (a_6 : Addr) =>
  derefK c0 (fun (a_7 : Addr) =>
  fldK ((some a_7)) 1 (fun (a_8 : Addr) =>
  loadK .ptr h ((some a_6)) (fun (v_9 : Option Addr) =>
  loadAggK (sizeOfT Tryz.prog T.api_Tag) h ((some a_8)) (fun (v_10 : Array Value) =>
  callK Tryz.prog .agg F.ref20_Root #[(.pointer v_9), (.agg v_10)] (fun (v_11 : Array Value) (h : Heap) =>
  storeAggK (sizeOfT Tryz.prog T.api_Tag) h v_1 v_11 (fun (h : Heap) =>
  quietK Tryz.prog .agg (Instr.loadAt T.api_Tag (.pointer v_1)) (fun (r_12 : Array Value) =>
  R (.agg r_12) h) h)) h))))))
  else
  derefK c0 (fun (a_13 : Addr) =>
  fldK ((some a_13)) 0 (fun (a_14 : Addr) =>
  derefK c0 (fun (a_15 : Addr) =>
  fldK ((some a_15)) 33 (fun (a_16 : Addr) =>
  derefK c0 (fun (a_17 : Addr) =>
  fldK ((some a_17)) 33 (fun (a_18 : Addr) =>
  loadK .ptr h ((some a_14)) (fun (v_19 : Option Addr) =>
  loadK .slice h ((some a_16)) (fun (v_20 : Sl) =>
  loadK .slice h ((some a_18)) (fun (v_21 : Sl) =>
  idxK v_20 (IntKind.i64.wrap (((v_21.n : Int)) - 1)) (sizeOfT Tryz.prog T.api_Entry) (fun (a_22 : Addr) =>
  loadAggK (sizeOfT Tryz.prog T.api_Entry) h ((some a_22)) (fun (v_23 : Array Value) =>
  callK Tryz.prog .agg F.ref20_Tag #[(.pointer v_19), (.agg v_23)] (fun (v_24 : Array Value) (h : Heap) =>
  storeAggK (sizeOfT Tryz.prog T.api_Tag) h v_1 v_24 (fun (h : Heap) =>
  quietK Tryz.prog .agg (Instr.loadAt T.api_Tag (.pointer v_1)) (fun (r_25 : Array Value) =>
  R (.agg r_25) h) h)) h)))))))))))))))
def ref20_Chain_Head.ann : Ann := (.seq .leaf (.seq (.seq .leaf (.cond (.seq (.any (.loc 0 (.loc 1 (.loc 2 (.loc 4 (.loc 5 (.loc 6 (.st 3 768 (.st 7 768 (.last 8 (.last 9 .done))))))))))) .leaf) .leaf)) (.seq (.any (.loc 0 (.loc 1 (.loc 2 (.loc 4 (.loc 5 (.loc 6 (.loc 8 (.loc 9 (.loc 10 (.st 3 196608 (.st 7 245760 (.st 11 258048 (.loc 12 (.loc 13 (.loc 14 (.st 15 196608 (.last 16 (.last 17 .done))))))))))))))))))) .leaf)))
theorem ref20_Chain_Head.eq (c0 : Option Addr) (R : Value → Heap → Prop) (h : Heap) : ref20_Chain_Head.body c0 R h = evFn Tryz.prog Tryz.f28 ref20_Chain_Head.ann [(.pointer c0)] R h := by kernel_rfl
theorem ref20_Chain_Head.calls {c0 : Option Addr} {R : Value → Heap → Prop} {h : Heap} (H : ref20_Chain_Head.body c0 R h) : HC Tryz.prog F.ref20_Chain_Head #[(.pointer c0)] R h :=
  evFn_sound mixed Tryz.func28 (by kernel_rfl) (ref20_Chain_Head.eq c0 R h ▸ H)

/-! (*zugzwang/zugzwangref20.Chain).Next -/
def ref20_Chain_Next.body (c0 : Option Addr) (b1 : Array Value) (R : Value → Heap → Prop) (h : Heap) : Prop :=
  newK h b1 T.api_Body (fun (b_1 : Option Addr) (h : Heap) =>
  newK h (zerosOf Tryz.prog T.api_Entry) T.api_Entry (fun (v_2 : Option Addr) (h : Heap) =>
  loadAggK (sizeOfT Tryz.prog T.api_Body) h b_1 (fun (v_3 : Array Value) =>
  callK Tryz.prog .bool F.ref18_Body #[(.agg v_3)] (fun (v_4 : Bool) (h : Heap) =>
  if (!v_4) = true then
  buildK Tryz.prog (Instr.build T.api_Entry #[]) (fun (v_5 : Array Value) =>
  storeAggK (sizeOfT Tryz.prog T.api_Entry) h v_2 v_5 (fun (h : Heap) =>
  quietK Tryz.prog .agg (Instr.loadAt T.api_Entry (.pointer v_2)) (fun (r_6 : Array Value) =>
  R (.tuple #[(.agg r_6), (.int .i64 2)]) h) h))
  else
  derefK c0 (fun (a_7 : Addr) =>
  fldK ((some a_7)) 1 (fun (a_8 : Addr) =>
  derefK c0 (fun (a_9 : Addr) =>
  fldK ((some a_9)) 33 (fun (a_10 : Addr) =>
  loadAggK (sizeOfT Tryz.prog T.api_Tag) h ((some a_8)) (fun (v_11 : Array Value) =>
  loadK .slice h ((some a_10)) (fun (v_12 : Sl) =>
  loadAggK (sizeOfT Tryz.prog T.api_Body) h b_1 (fun (v_13 : Array Value) =>
  callK Tryz.prog .agg F.ref20_Chain_Head #[(.pointer c0)] (fun (v_14 : Array Value) (h : Heap) =>
  stillAggK (sizeOfT Tryz.prog T.api_Body) h b_1 v_13 ∧
  stillK .slice h ((some a_10)) v_12 ∧
  stillAggK (sizeOfT Tryz.prog T.api_Tag) h ((some a_8)) v_11 ∧
  buildK Tryz.prog (Instr.build T.api_Entry #[(0, (.agg v_11)), (1, (.int .i64 ((v_12.n : Int)))), (2, (.agg v_14)), (3, (.agg v_13))]) (fun (v_15 : Array Value) =>
  storeAggK (sizeOfT Tryz.prog T.api_Entry) h v_2 v_15 (fun (h : Heap) =>
  quietK Tryz.prog .agg (Instr.loadAt T.api_Entry (.pointer v_2)) (fun (r_16 : Array Value) =>
  R (.tuple #[(.agg r_16), (.int .i64 0)]) h) h))) h)))))))) h)))
def ref20_Chain_Next.ann : Ann := (.seq .leaf (.seq (.seq .leaf (.cond (.seq .leaf .leaf) .leaf)) (.seq (.any (.loc 0 (.loc 1 (.loc 2 (.loc 4 (.loc 5 (.loc 6 (.loc 9 (.st 3 28672 (.st 7 28928 (.loc 8 (.st 11 28672 (.last 10 (.loc 12 (.last 13 (.loc 14 .done)))))))))))))))) .leaf)))
theorem ref20_Chain_Next.eq (c0 : Option Addr) (b1 : Array Value) (R : Value → Heap → Prop) (h : Heap) : ref20_Chain_Next.body c0 b1 R h = evFn Tryz.prog Tryz.f7 ref20_Chain_Next.ann [(.pointer c0), (.agg b1)] R h := by kernel_rfl
theorem ref20_Chain_Next.calls {c0 : Option Addr} {b1 : Array Value} {R : Value → Heap → Prop} {h : Heap} (H : ref20_Chain_Next.body c0 b1 R h) : HC Tryz.prog F.ref20_Chain_Next #[(.pointer c0), (.agg b1)] R h :=
  evFn_sound mixed Tryz.func7 (by kernel_rfl) (ref20_Chain_Next.eq c0 b1 R h ▸ H)

/-! (*zugzwang/zugzwangref20.Chain).Why -/
def ref20_Chain_Why.body (c0 : Option Addr) (e1 : Array Value) (R : Value → Heap → Prop) (h : Heap) : Prop :=
  newK h e1 T.api_Entry (fun (e_1 : Option Addr) (h : Heap) =>
  loadAggK (sizeOfT Tryz.prog T.api_Entry) h e_1 (fun (v_2 : Array Value) =>
  callK Tryz.prog .bool F.ref18_Entry #[(.agg v_2)] (fun (v_3 : Bool) (h : Heap) =>
  if (!v_3) = true then
  R (.int .i64 2) h
  else
  fldK e_1 0 (fun (a_4 : Addr) =>
  loadAggK (sizeOfT Tryz.prog T.api_Tag) h ((some a_4)) (fun (v_5 : Array Value) =>
  derefK c0 (fun (a_6 : Addr) =>
  fldK ((some a_6)) 1 (fun (a_7 : Addr) =>
  loadAggK (sizeOfT Tryz.prog T.api_Tag) h ((some a_7)) (fun (v_8 : Array Value) =>
  eqK Tryz.prog (binSem .neq T.api_Tag (.tmp 11) (.tmp 15) (.agg v_5) (.agg v_8)) (fun (v_9 : Bool) =>
  if v_9 = true then
  R (.int .i64 14) h
  else
  joinW (fun (s_10 : Bool) (h : Heap) =>
  if s_10 = true then
  R (.int .i64 12) h
  else
  fldK e_1 32 (fun (a_11 : Addr) =>
  loadK (.int .i64) h ((some a_11)) (fun (v_12 : Int) =>
  derefK c0 (fun (a_13 : Addr) =>
  fldK ((some a_13)) 33 (fun (a_14 : Addr) =>
  loadK .slice h ((some a_14)) (fun (v_15 : Sl) =>
  if (decide (v_12 < ((v_15.n : Int)))) = true then
  R (.int .i64 15) h
  else
  fldK e_1 32 (fun (a_16 : Addr) =>
  loadK (.int .i64) h ((some a_16)) (fun (v_17 : Int) =>
  derefK c0 (fun (a_18 : Addr) =>
  fldK ((some a_18)) 33 (fun (a_19 : Addr) =>
  loadK .slice h ((some a_19)) (fun (v_20 : Sl) =>
  if (decide (v_17 > ((v_20.n : Int)))) = true then
  R (.int .i64 11) h
  else
  fldK e_1 33 (fun (a_21 : Addr) =>
  loadAggK (sizeOfT Tryz.prog T.api_Tag) h ((some a_21)) (fun (v_22 : Array Value) =>
  callK Tryz.prog .agg F.ref20_Chain_Head #[(.pointer c0)] (fun (v_23 : Array Value) (h : Heap) =>
  stillAggK (sizeOfT Tryz.prog T.api_Tag) h ((some a_21)) v_22 ∧
  eqK Tryz.prog (binSem .neq T.api_Tag (.tmp 58) (.tmp 60) (.agg v_22) (.agg v_23)) (fun (v_24 : Bool) =>
  if v_24 = true then
  R (.int .i64 7) h
  else
  R (.int .i64 0) h)) h)))))))))))))
  (fun J_25 =>
  fldK e_1 32 (fun (a_26 : Addr) =>
  loadK (.int .i64) h ((some a_26)) (fun (v_27 : Int) =>
  derefK c0 (fun (a_28 : Addr) =>
  fldK ((some a_28)) 33 (fun (a_29 : Addr) =>
  loadK .slice h ((some a_29)) (fun (v_30 : Sl) =>
  if (decide (v_27 < ((v_30.n : Int)))) = true then
  derefK c0 (fun (a_31 : Addr) =>
  fldK ((some a_31)) 33 (fun (a_32 : Addr) =>
  loadK .slice h ((some a_32)) (fun (v_33 : Sl) =>
  fldK e_1 32 (fun (a_34 : Addr) =>
  loadK (.int .i64) h ((some a_34)) (fun (v_35 : Int) =>
  idxK v_33 v_35 (sizeOfT Tryz.prog T.api_Entry) (fun (a_36 : Addr) =>
  loadAggK (sizeOfT Tryz.prog T.api_Entry) h ((some a_36)) (fun (v_37 : Array Value) =>
  loadAggK (sizeOfT Tryz.prog T.api_Entry) h e_1 (fun (v_38 : Array Value) =>
  eqK Tryz.prog (binSem .eql T.api_Entry (.tmp 34) (.tmp 35) (.agg v_37) (.agg v_38)) (fun (v_39 : Bool) =>
  J_25 v_39 h)))))))))
  else
  J_25 false h))))))))))))) h))
def ref20_Chain_Why.ann : Ann := (.seq .leaf (.seq (.block (.seq .leaf (.cond (.seq .leaf .leaf) (.seq .leaf (.cond (.seq .leaf .leaf) (.join [(17, .bool)] .leaf (.cond (.seq .leaf .leaf) (.seq .leaf (.cond (.seq .leaf .leaf) (.seq .leaf (.cond (.seq .leaf .leaf) (.seq (.any (.loc 0 (.loc 2 (.st 1 48 (.last 3 (.loc 4 (.loc 5 .done))))))) (.cond (.seq .leaf .leaf) .leaf))))))))))))) (.seq .leaf .leaf)))
theorem ref20_Chain_Why.eq (c0 : Option Addr) (e1 : Array Value) (R : Value → Heap → Prop) (h : Heap) : ref20_Chain_Why.body c0 e1 R h = evFn Tryz.prog Tryz.f9 ref20_Chain_Why.ann [(.pointer c0), (.agg e1)] R h := by kernel_rfl
theorem ref20_Chain_Why.calls {c0 : Option Addr} {e1 : Array Value} {R : Value → Heap → Prop} {h : Heap} (H : ref20_Chain_Why.body c0 e1 R h) : HC Tryz.prog F.ref20_Chain_Why #[(.pointer c0), (.agg e1)] R h :=
  evFn_sound mixed Tryz.func9 (by kernel_rfl) (ref20_Chain_Why.eq c0 e1 R h ▸ H)

/-! zugzwang/zugzwangkit.Pick -/
def kit_Pick.body (x0 : Int) (n1 : Int) (R : Value → Heap → Prop) (h : Heap) : Prop :=
  if (decide (n1 < 1)) = true then
  R (.int .i64 0) h
  else
  divK n1
  (if (decide ((Int.tmod x0 n1) < 0)) = true then
  R (.int .i64 (IntKind.i64.wrap ((Int.tmod x0 n1) + n1))) h
  else
  R (.int .i64 (Int.tmod x0 n1)) h)
def kit_Pick.ann : Ann := (.seq .leaf (.seq (.seq .leaf (.cond (.seq .leaf .leaf) .leaf)) (.seq .leaf (.seq (.seq .leaf (.cond .leaf .leaf)) (.seq .leaf .leaf)))))
theorem kit_Pick.eq (x0 : Int) (n1 : Int) (R : Value → Heap → Prop) (h : Heap) : kit_Pick.body x0 n1 R h = evFn Tryz.prog Tryz.f10 kit_Pick.ann [(.int .i64 x0), (.int .i64 n1)] R h := by kernel_rfl
theorem kit_Pick.calls {x0 : Int} {n1 : Int} {R : Value → Heap → Prop} {h : Heap} (H : kit_Pick.body x0 n1 R h) : HC Tryz.prog F.kit_Pick #[(.int .i64 x0), (.int .i64 n1)] R h :=
  evFn_sound mixed Tryz.func10 (by kernel_rfl) (kit_Pick.eq x0 n1 R h ▸ H)

/-! slices.Clone[[]zugzwang/api.Entry,zugzwang/api.Entry] -/
def slices_Clone_api_Entry_api_Entry.body (s0 : Sl) (R : Value → Heap → Prop) (h : Heap) : Prop :=
  if s0.a.isNone = true then
  R (.slice none 0 0) h
  else
  opK Tryz.prog .slice (Instr.buildSlice T.sl_api_Entry 0 #[]) (fun (v_1 : Sl) (h : Heap) =>
  opK Tryz.prog .slice (Builtin.append_ #[T.sl_api_Entry, T.sl_api_Entry] T.sl_api_Entry #[(.slice v_1.a v_1.n v_1.c), (.slice s0.a s0.n s0.c)]) (fun (v_2 : Sl) (h : Heap) =>
  R (.slice v_2.a v_2.n v_2.c) h) h) h
def slices_Clone_api_Entry_api_Entry.ann : Ann := (.seq .leaf (.seq (.seq .leaf (.cond (.seq .leaf .leaf) .leaf)) (.seq .leaf .leaf)))
theorem slices_Clone_api_Entry_api_Entry.eq (s0 : Sl) (R : Value → Heap → Prop) (h : Heap) : slices_Clone_api_Entry_api_Entry.body s0 R h = evFn Tryz.prog Tryz.f38 slices_Clone_api_Entry_api_Entry.ann [(.slice s0.a s0.n s0.c)] R h := by kernel_rfl
theorem slices_Clone_api_Entry_api_Entry.calls {s0 : Sl} {R : Value → Heap → Prop} {h : Heap} (H : slices_Clone_api_Entry_api_Entry.body s0 R h) : HC Tryz.prog F.slices_Clone_api_Entry_api_Entry #[(.slice s0.a s0.n s0.c)] R h :=
  evFn_sound mixed Tryz.func38 (by kernel_rfl) (slices_Clone_api_Entry_api_Entry.eq s0 R h ▸ H)

/-! slices.Clone[[]zugzwang/api.Tag,zugzwang/api.Tag] -/
def slices_Clone_api_Tag_api_Tag.body (s0 : Sl) (R : Value → Heap → Prop) (h : Heap) : Prop :=
  if s0.a.isNone = true then
  R (.slice none 0 0) h
  else
  opK Tryz.prog .slice (Instr.buildSlice T.sl_api_Tag 0 #[]) (fun (v_1 : Sl) (h : Heap) =>
  opK Tryz.prog .slice (Builtin.append_ #[T.sl_api_Tag, T.sl_api_Tag] T.sl_api_Tag #[(.slice v_1.a v_1.n v_1.c), (.slice s0.a s0.n s0.c)]) (fun (v_2 : Sl) (h : Heap) =>
  R (.slice v_2.a v_2.n v_2.c) h) h) h
def slices_Clone_api_Tag_api_Tag.ann : Ann := (.seq .leaf (.seq (.seq .leaf (.cond (.seq .leaf .leaf) .leaf)) (.seq .leaf .leaf)))
theorem slices_Clone_api_Tag_api_Tag.eq (s0 : Sl) (R : Value → Heap → Prop) (h : Heap) : slices_Clone_api_Tag_api_Tag.body s0 R h = evFn Tryz.prog Tryz.f39 slices_Clone_api_Tag_api_Tag.ann [(.slice s0.a s0.n s0.c)] R h := by kernel_rfl
theorem slices_Clone_api_Tag_api_Tag.calls {s0 : Sl} {R : Value → Heap → Prop} {h : Heap} (H : slices_Clone_api_Tag_api_Tag.body s0 R h) : HC Tryz.prog F.slices_Clone_api_Tag_api_Tag #[(.slice s0.a s0.n s0.c)] R h :=
  evFn_sound mixed Tryz.func39 (by kernel_rfl) (slices_Clone_api_Tag_api_Tag.eq s0 R h ▸ H)

/-! (*zugzwang/chain.Chain).Copy -/
def chain_Chain_Copy.body (c0 : Option Addr) (R : Value → Heap → Prop) (h : Heap) : Prop :=
  callK Tryz.prog .bool F.chain_Chain_made #[(.pointer c0)] (fun (v_1 : Bool) (h : Heap) =>
  if (!v_1) = true then
  R (.pointer none) h
  else
  derefK c0 (fun (a_2 : Addr) =>
  fldK ((some a_2)) 0 (fun (a_3 : Addr) =>
  derefK c0 (fun (a_4 : Addr) =>
  fldK ((some a_4)) 33 (fun (a_5 : Addr) =>
  derefK c0 (fun (a_6 : Addr) =>
  fldK ((some a_6)) 34 (fun (a_7 : Addr) =>
  loadAggK (sizeOfT Tryz.prog T.chain_smith) h ((some a_3)) (fun (v_8 : Array Value) =>
  loadK .slice h ((some a_5)) (fun (v_9 : Sl) =>
  loadK .slice h ((some a_7)) (fun (v_10 : Sl) =>
  callK Tryz.prog .slice F.slices_Clone_api_Entry_api_Entry #[(.slice v_9.a v_9.n v_9.c)] (fun (v_11 : Sl) (h : Heap) =>
  stillK .slice h ((some a_7)) v_10 ∧
  stillAggK (sizeOfT Tryz.prog T.chain_smith) h ((some a_3)) v_8 ∧
  callK Tryz.prog .slice F.slices_Clone_api_Tag_api_Tag #[(.slice v_10.a v_10.n v_10.c)] (fun (v_12 : Sl) (h : Heap) =>
  stillAggK (sizeOfT Tryz.prog T.chain_smith) h ((some a_3)) v_8 ∧
  buildK Tryz.prog (Instr.build T.chain_Chain #[(0, (.agg v_8)), (1, (.slice v_11.a v_11.n v_11.c)), (2, (.slice v_12.a v_12.n v_12.c))]) (fun (v_13 : Array Value) =>
  newK h v_13 T.chain_Chain (fun (v_14 : Option Addr) (h : Heap) =>
  R (.pointer v_14) h))) h) h)))))))))) h
def chain_Chain_Copy.ann : Ann := (.seq .leaf (.seq (.seq .leaf (.cond (.seq .leaf .leaf) .leaf)) (.seq (.any (.loc 0 (.loc 1 (.loc 2 (.loc 4 (.loc 5 (.loc 6 (.loc 9 (.loc 10 (.loc 11 (.st 3 114688 (.st 7 123136 (.st 12 122880 (.last 8 (.last 13 (.loc 14 (.last 15 (.loc 16 .done)))))))))))))))))) .leaf)))
theorem chain_Chain_Copy.eq (c0 : Option Addr) (R : Value → Heap → Prop) (h : Heap) : chain_Chain_Copy.body c0 R h = evFn Tryz.prog Tryz.f11 chain_Chain_Copy.ann [(.pointer c0)] R h := by kernel_rfl
theorem chain_Chain_Copy.calls {c0 : Option Addr} {R : Value → Heap → Prop} {h : Heap} (H : chain_Chain_Copy.body c0 R h) : HC Tryz.prog F.chain_Chain_Copy #[(.pointer c0)] R h :=
  evFn_sound mixed Tryz.func11 (by kernel_rfl) (chain_Chain_Copy.eq c0 R h ▸ H)

/-! zugzwang/zugzwangkit.mark -/
def kit_mark.body (k0 : Int) (i1 : Int) (R : Value → Heap → Prop) (h : Heap) : Prop :=
  R (.int .i64 (IntKind.i64.wrap ((IntKind.i64.wrap (1000003 * (IntKind.i64.wrap (k0 + 7)))) + i1))) h
def kit_mark.ann : Ann := (.seq .leaf (.seq .leaf .leaf))
theorem kit_mark.eq (k0 : Int) (i1 : Int) (R : Value → Heap → Prop) (h : Heap) : kit_mark.body k0 i1 R h = evFn Tryz.prog Tryz.f56 kit_mark.ann [(.int .i64 k0), (.int .i64 i1)] R h := by kernel_rfl
theorem kit_mark.calls {k0 : Int} {i1 : Int} {R : Value → Heap → Prop} {h : Heap} (H : kit_mark.body k0 i1 R h) : HC Tryz.prog F.kit_mark #[(.int .i64 k0), (.int .i64 i1)] R h :=
  evFn_sound mixed Tryz.func56 (by kernel_rfl) (kit_mark.eq k0 i1 R h ▸ H)

/-! zugzwang/zugzwangkit.markEntry -/
def kit_markEntry.body (k0 : Int) (i1 : Int) (R : Value → Heap → Prop) (h : Heap) : Prop :=
  newK h (zerosOf Tryz.prog T.api_Entry) T.api_Entry (fun (v_1 : Option Addr) (h : Heap) =>
  callK Tryz.prog (.int .i64) F.kit_mark #[(.int .i64 k0), (.int .i64 i1)] (fun (v_2 : Int) (h : Heap) =>
  buildK Tryz.prog (Instr.build T.api_Entry #[(1, (.int .i64 v_2))]) (fun (v_3 : Array Value) =>
  storeAggK (sizeOfT Tryz.prog T.api_Entry) h v_1 v_3 (fun (h : Heap) =>
  quietK Tryz.prog .agg (Instr.loadAt T.api_Entry (.pointer v_1)) (fun (r_4 : Array Value) =>
  R (.agg r_4) h) h))) h)
def kit_markEntry.ann : Ann := (.seq .leaf (.seq .leaf .leaf))
theorem kit_markEntry.eq (k0 : Int) (i1 : Int) (R : Value → Heap → Prop) (h : Heap) : kit_markEntry.body k0 i1 R h = evFn Tryz.prog Tryz.f41 kit_markEntry.ann [(.int .i64 k0), (.int .i64 i1)] R h := by kernel_rfl
theorem kit_markEntry.calls {k0 : Int} {i1 : Int} {R : Value → Heap → Prop} {h : Heap} (H : kit_markEntry.body k0 i1 R h) : HC Tryz.prog F.kit_markEntry #[(.int .i64 k0), (.int .i64 i1)] R h :=
  evFn_sound mixed Tryz.func41 (by kernel_rfl) (kit_markEntry.eq k0 i1 R h ▸ H)

/-! zugzwang/zugzwangkit.OverEntries -/
def kit_OverEntries.body (out0 : Sl) (R : Value → Heap → Prop) (h : Heap) : Prop :=
  sliceK out0 none (some (if (IntKind.i64.wrap (((out0.n : Int)) + 12)) < ((out0.c : Int)) then (IntKind.i64.wrap (((out0.n : Int)) + 12)) else ((out0.c : Int)))) none (sizeOfT Tryz.prog T.api_Entry) (fun (v_1 : Sl) =>
  loopW (fun X_3 (s_2 : Int) (h : Heap) =>
  if (decide (s_2 < ((v_1.n : Int)))) = true then
  callK Tryz.prog .agg F.kit_markEntry #[(.int .i64 2), (.int .i64 s_2)] (fun (v_4 : Array Value) (h : Heap) =>
  idxK v_1 s_2 (sizeOfT Tryz.prog T.api_Entry) (fun (a_5 : Addr) =>
  storeAggK (sizeOfT Tryz.prog T.api_Entry) h ((some a_5)) v_4 (fun (h : Heap) =>
  X_3 (IntKind.i64.wrap (s_2 + 1)) h))) h
  else
  R (.tuple #[]) h) 0 h)
def kit_OverEntries.ann : Ann := (.seq .leaf (.seq .leaf (.block (.loop [(3, (.int .i64))] (.seq (.seq .leaf (.cond .leaf .leaf)) (.seq (.block .leaf) .leaf))))))
theorem kit_OverEntries.eq (out0 : Sl) (R : Value → Heap → Prop) (h : Heap) : kit_OverEntries.body out0 R h = evFn Tryz.prog Tryz.f13 kit_OverEntries.ann [(.slice out0.a out0.n out0.c)] R h := by kernel_rfl
theorem kit_OverEntries.calls {out0 : Sl} {R : Value → Heap → Prop} {h : Heap} (H : kit_OverEntries.body out0 R h) : HC Tryz.prog F.kit_OverEntries #[(.slice out0.a out0.n out0.c)] R h :=
  evFn_sound mixed Tryz.func13 (by kernel_rfl) (kit_OverEntries.eq out0 R h ▸ H)

/-! (*zugzwang/chain.Chain).Entries -/
def chain_Chain_Entries.body (c0 : Option Addr) (R : Value → Heap → Prop) (h : Heap) : Prop :=
  callK Tryz.prog .bool F.chain_Chain_made #[(.pointer c0)] (fun (v_1 : Bool) (h : Heap) =>
  if (!v_1) = true then
  R (.slice none 0 0) h
  else
  derefK c0 (fun (a_2 : Addr) =>
  fldK ((some a_2)) 33 (fun (a_3 : Addr) =>
  loadK .slice h ((some a_3)) (fun (v_4 : Sl) =>
  callK Tryz.prog .slice F.slices_Clone_api_Entry_api_Entry #[(.slice v_4.a v_4.n v_4.c)] (fun (v_5 : Sl) (h : Heap) =>
  R (.slice v_5.a v_5.n v_5.c) h) h)))) h
def chain_Chain_Entries.ann : Ann := (.seq .leaf (.seq (.seq .leaf (.cond (.seq .leaf .leaf) .leaf)) (.seq .leaf .leaf)))
theorem chain_Chain_Entries.eq (c0 : Option Addr) (R : Value → Heap → Prop) (h : Heap) : chain_Chain_Entries.body c0 R h = evFn Tryz.prog Tryz.f14 chain_Chain_Entries.ann [(.pointer c0)] R h := by kernel_rfl
theorem chain_Chain_Entries.calls {c0 : Option Addr} {R : Value → Heap → Prop} {h : Heap} (H : chain_Chain_Entries.body c0 R h) : HC Tryz.prog F.chain_Chain_Entries #[(.pointer c0)] R h :=
  evFn_sound mixed Tryz.func14 (by kernel_rfl) (chain_Chain_Entries.eq c0 R h ▸ H)

/-! zugzwang/zugzwanglaw20.entries -/
def law20_entries.body (q0 : Option Addr) (d1 : Array Value) (R : Value → Heap → Prop) (h : Heap) : Prop :=
  newK h d1 T.zugzwanglaw20_Deed (fun (d_1 : Option Addr) (h : Heap) =>
  fldK d_1 2 (fun (a_2 : Addr) =>
  loadAggK (sizeOfT Tryz.prog T.api_Body) h ((some a_2)) (fun (v_3 : Array Value) =>
  callK Tryz.prog (Kd.pair .agg (.int .i64)) F.ref20_Chain_Next #[(.pointer q0), (.agg v_3)] (fun (v_4 : Array Value × Int) (h : Heap) =>
  newK h (zerosOf Tryz.prog T.api_Entry) T.api_Entry (fun (x_5 : Option Addr) (h : Heap) =>
  storeAggK (sizeOfT Tryz.prog T.api_Entry) h x_5 v_4.1 (fun (h : Heap) =>
  joinW (fun (s_6 : Unit) (h : Heap) =>
  fldK d_1 0 (fun (a_7 : Addr) =>
  loadK (.int .i64) h ((some a_7)) (fun (v_8 : Int) =>
  callK Tryz.prog (.int .i64) F.kit_Pick #[(.int .i64 v_8), (.int .i64 6)] (fun (v_9 : Int) (h : Heap) =>
  if (v_9 == 1) = true then
  fldK d_1 72 (fun (a_10 : Addr) =>
  loadAggK (sizeOfT Tryz.prog T.api_Entry) h ((some a_10)) (fun (v_11 : Array Value) =>
  loadAggK (sizeOfT Tryz.prog T.api_Entry) h x_5 (fun (v_12 : Array Value) =>
  opK Tryz.prog .slice (Instr.buildSlice T.sl_api_Entry 2 #[(0, (.agg v_11)), (1, (.agg v_12))]) (fun (v_13 : Sl) (h : Heap) =>
  R (.slice v_13.a v_13.n v_13.c) h) h)))
  else
  if (v_9 == 2) = true then
  derefK q0 (fun (a_14 : Addr) =>
  fldK ((some a_14)) 33 (fun (a_15 : Addr) =>
  loadK .slice h ((some a_15)) (fun (v_16 : Sl) =>
  if (((v_16.n : Int)) == 0) = true then
  R (.slice none 0 0) h
  else
  joinW (fun (s_17 : Option Addr) (h : Heap) =>
  loadAggK (sizeOfT Tryz.prog T.api_Entry) h s_17 (fun (v_18 : Array Value) =>
  newK h (zerosOf Tryz.prog T.api_Entry) T.api_Entry (fun (other_19 : Option Addr) (h : Heap) =>
  storeAggK (sizeOfT Tryz.prog T.api_Entry) h other_19 v_18 (fun (h : Heap) =>
  fldK d_1 2 (fun (a_20 : Addr) =>
  loadAggK (sizeOfT Tryz.prog T.api_Body) h ((some a_20)) (fun (v_21 : Array Value) =>
  fldK other_19 65 (fun (a_22 : Addr) =>
  storeAggK (sizeOfT Tryz.prog T.api_Body) h ((some a_22)) v_21 (fun (h : Heap) =>
  fldK d_1 1 (fun (a_23 : Addr) =>
  loadK (.int .i64) h ((some a_23)) (fun (v_24 : Int) =>
  divK 2
  (if ((Int.tmod v_24 2) == 0) = true then
  loadAggK (sizeOfT Tryz.prog T.api_Entry) h s_17 (fun (v_25 : Array Value) =>
  opK Tryz.prog .slice (Instr.buildSlice T.sl_api_Entry 1 #[(0, (.agg v_25))]) (fun (v_26 : Sl) (h : Heap) =>
  R (.slice v_26.a v_26.n v_26.c) h) h)
  else
  loadAggK (sizeOfT Tryz.prog T.api_Entry) h other_19 (fun (v_27 : Array Value) =>
  opK Tryz.prog .slice (Instr.buildSlice T.sl_api_Entry 1 #[(0, (.agg v_27))]) (fun (v_28 : Sl) (h : Heap) =>
  R (.slice v_28.a v_28.n v_28.c) h) h))))))))))))
  (fun J_29 =>
  derefK q0 (fun (a_30 : Addr) =>
  fldK ((some a_30)) 33 (fun (a_31 : Addr) =>
  fldK d_1 1 (fun (a_32 : Addr) =>
  derefK q0 (fun (a_33 : Addr) =>
  fldK ((some a_33)) 33 (fun (a_34 : Addr) =>
  loadK .slice h ((some a_31)) (fun (v_35 : Sl) =>
  loadK (.int .i64) h ((some a_32)) (fun (v_36 : Int) =>
  loadK .slice h ((some a_34)) (fun (v_37 : Sl) =>
  ((callK Tryz.prog (.int .i64) F.kit_Pick #[(.int .i64 v_36), (.int .i64 ((v_37.n : Int)))] (fun (v_38 : Int) (h : Heap) =>
  stillK .slice h ((some a_31)) v_35 ∧
  idxK v_35 v_38 (sizeOfT Tryz.prog T.api_Entry) (fun (a_39 : Addr) =>
  loadAggK (sizeOfT Tryz.prog T.api_Entry) h ((some a_39)) (fun (v_40 : Array Value) =>
  newK h (zerosOf Tryz.prog T.api_Entry) T.api_Entry (fun (old_41 : Option Addr) (h : Heap) =>
  storeAggK (sizeOfT Tryz.prog T.api_Entry) h old_41 v_40 (fun (h : Heap) =>
  J_29 old_41 h))))) h) ∧
  (newK h (zerosOf Tryz.prog T.api_Entry) T.api_Entry (fun (old_42 : Option Addr) (h : Heap) =>
  callK Tryz.prog (.int .i64) F.kit_Pick #[(.int .i64 v_36), (.int .i64 ((v_37.n : Int)))] (fun (v_43 : Int) (h : Heap) =>
  stillK .slice h ((some a_31)) v_35 ∧
  idxK v_35 v_43 (sizeOfT Tryz.prog T.api_Entry) (fun (a_44 : Addr) =>
  loadAggK (sizeOfT Tryz.prog T.api_Entry) h ((some a_44)) (fun (v_45 : Array Value) =>
  storeAggK (sizeOfT Tryz.prog T.api_Entry) h old_42 v_45 (fun (h : Heap) =>
  J_29 old_42 h)))) h)))))))))))))))
  else
  if (v_9 == 3) = true then
  fldK d_1 1 (fun (a_46 : Addr) =>
  loadK (.int .i64) h ((some a_46)) (fun (v_47 : Int) =>
  callK Tryz.prog (.int .i64) F.kit_Pick #[(.int .i64 v_47), (.int .i64 32)] (fun (v_48 : Int) (h : Heap) =>
  fldK x_5 33 (fun (a_49 : Addr) =>
  idxArrK ((some a_49)) 32 v_48 (sizeOfT Tryz.prog T.uint8) (fun (a_50 : Addr) =>
  loadK (.int .u8) h ((some a_50)) (fun (v_51 : Int) =>
  fldK x_5 33 (fun (a_52 : Addr) =>
  idxArrK ((some a_52)) 32 v_48 (sizeOfT Tryz.prog T.uint8) (fun (a_53 : Addr) =>
  storeK h ((some a_53)) (.int .u8 (IntKind.u8.wrap (v_51 + 1))) (fun (h : Heap) =>
  loadAggK (sizeOfT Tryz.prog T.api_Entry) h x_5 (fun (v_54 : Array Value) =>
  opK Tryz.prog .slice (Instr.buildSlice T.sl_api_Entry 1 #[(0, (.agg v_54))]) (fun (v_55 : Sl) (h : Heap) =>
  R (.slice v_55.a v_55.n v_55.c) h) h)))))))) h))
  else
  if (v_9 == 4) = true then
  fldK x_5 32 (fun (a_56 : Addr) =>
  loadK (.int .i64) h ((some a_56)) (fun (v_57 : Int) =>
  fldK d_1 1 (fun (a_58 : Addr) =>
  loadK (.int .i64) h ((some a_58)) (fun (v_59 : Int) =>
  fldK x_5 32 (fun (a_60 : Addr) =>
  storeK h ((some a_60)) (.int .i64 (IntKind.i64.wrap (v_57 + v_59))) (fun (h : Heap) =>
  loadAggK (sizeOfT Tryz.prog T.api_Entry) h x_5 (fun (v_61 : Array Value) =>
  opK Tryz.prog .slice (Instr.buildSlice T.sl_api_Entry 1 #[(0, (.agg v_61))]) (fun (v_62 : Sl) (h : Heap) =>
  R (.slice v_62.a v_62.n v_62.c) h) h)))))))
  else
  if (v_9 == 5) = true then
  fldK d_1 1 (fun (a_63 : Addr) =>
  loadK (.int .i64) h ((some a_63)) (fun (v_64 : Int) =>
  callK Tryz.prog (.int .i64) F.kit_Pick #[(.int .i64 v_64), (.int .i64 32)] (fun (v_65 : Int) (h : Heap) =>
  fldK x_5 0 (fun (a_66 : Addr) =>
  idxArrK ((some a_66)) 32 v_65 (sizeOfT Tryz.prog T.uint8) (fun (a_67 : Addr) =>
  loadK (.int .u8) h ((some a_67)) (fun (v_68 : Int) =>
  fldK x_5 0 (fun (a_69 : Addr) =>
  idxArrK ((some a_69)) 32 v_65 (sizeOfT Tryz.prog T.uint8) (fun (a_70 : Addr) =>
  storeK h ((some a_70)) (.int .u8 (IntKind.u8.wrap (v_68 + 1))) (fun (h : Heap) =>
  loadAggK (sizeOfT Tryz.prog T.api_Entry) h x_5 (fun (v_71 : Array Value) =>
  opK Tryz.prog .slice (Instr.buildSlice T.sl_api_Entry 1 #[(0, (.agg v_71))]) (fun (v_72 : Sl) (h : Heap) =>
  R (.slice v_72.a v_72.n v_72.c) h) h)))))))) h))
  else
  loadAggK (sizeOfT Tryz.prog T.api_Entry) h x_5 (fun (v_73 : Array Value) =>
  opK Tryz.prog .slice (Instr.buildSlice T.sl_api_Entry 1 #[(0, (.agg v_73))]) (fun (v_74 : Sl) (h : Heap) =>
  R (.slice v_74.a v_74.n v_74.c) h) h)) h)))
  (fun J_75 =>
  fldK x_5 65 (fun (a_76 : Addr) =>
  fldK ((some a_76)) 0 (fun (a_77 : Addr) =>
  loadK (.int .i64) h ((some a_77)) (fun (v_78 : Int) =>
  if (v_78 == 0) = true then
  derefK q0 (fun (a_79 : Addr) =>
  fldK ((some a_79)) 1 (fun (a_80 : Addr) =>
  derefK q0 (fun (a_81 : Addr) =>
  fldK ((some a_81)) 33 (fun (a_82 : Addr) =>
  fldK d_1 2 (fun (a_83 : Addr) =>
  loadAggK (sizeOfT Tryz.prog T.api_Tag) h ((some a_80)) (fun (v_84 : Array Value) =>
  loadK .slice h ((some a_82)) (fun (v_85 : Sl) =>
  loadAggK (sizeOfT Tryz.prog T.api_Body) h ((some a_83)) (fun (v_86 : Array Value) =>
  callK Tryz.prog .agg F.ref20_Chain_Head #[(.pointer q0)] (fun (v_87 : Array Value) (h : Heap) =>
  stillAggK (sizeOfT Tryz.prog T.api_Body) h ((some a_83)) v_86 ∧
  stillK .slice h ((some a_82)) v_85 ∧
  stillAggK (sizeOfT Tryz.prog T.api_Tag) h ((some a_80)) v_84 ∧
  buildK Tryz.prog (Instr.build T.api_Entry #[(0, (.agg v_84)), (1, (.int .i64 ((v_85.n : Int)))), (2, (.agg v_87)), (3, (.agg v_86))]) (fun (v_88 : Array Value) =>
  storeAggK (sizeOfT Tryz.prog T.api_Entry) h x_5 v_88 (fun (h : Heap) =>
  J_75 () h))) h))))))))
  else
  J_75 () h))))))) h)))
def law20_entries.ann : Ann := (.seq .leaf (.seq .leaf (.join [] (.seq .leaf (.cond (.any (.loc 0 (.loc 1 (.loc 2 (.loc 4 (.loc 5 (.loc 6 (.loc 9 (.loc 11 (.st 3 24576 (.st 7 24832 (.loc 8 (.st 12 24576 (.last 10 (.loc 13 (.last 14 .done)))))))))))))))) .leaf)) (.seq (.seq .leaf (.block (.seq .leaf (.cond (.seq .leaf .leaf) (.seq .leaf (.cond (.seq (.seq .leaf (.cond (.seq .leaf .leaf) .leaf)) (.join [(7, .ptr)] (.any (.loc 0 (.loc 1 (.loc 2 (.loc 4 (.loc 6 (.loc 7 (.loc 8 (.st 3 45056 (.st 5 47104 (.st 9 48128 (.loc 10 (.alt 11 (.loc 12 (.st 13 32768 (.last 14 (.last 15 .done)))) (.last 14 (.last 11 (.loc 12 (.st 13 32768 (.last 15 .done)))))))))))))))))) (.seq .leaf (.seq .leaf (.seq (.seq .leaf (.cond (.seq .leaf .leaf) .leaf)) (.seq .leaf .leaf)))))) (.seq .leaf (.cond .leaf (.seq .leaf (.cond .leaf (.seq .leaf (.cond .leaf .leaf)))))))))))) (.seq .leaf .leaf)))))
theorem law20_entries.eq (q0 : Option Addr) (d1 : Array Value) (R : Value → Heap → Prop) (h : Heap) : law20_entries.body q0 d1 R h = evFn Tryz.prog Tryz.f15 law20_entries.ann [(.pointer q0), (.agg d1)] R h := by kernel_rfl
theorem law20_entries.calls {q0 : Option Addr} {d1 : Array Value} {R : Value → Heap → Prop} {h : Heap} (H : law20_entries.body q0 d1 R h) : HC Tryz.prog F.law20_entries #[(.pointer q0), (.agg d1)] R h :=
  evFn_sound mixed Tryz.func15 (by kernel_rfl) (law20_entries.eq q0 d1 R h ▸ H)

/-! zugzwang/zugzwangkit.LentEntries -/
def kit_LentEntries.body (l0 : Sl) (R : Value → Heap → Prop) (h : Heap) : Prop :=
  opK Tryz.prog .slice (Instr.makeSlice T.sl_api_Entry (.int .i64 0) (.int .i64 (IntKind.i64.wrap (((l0.n : Int)) + 12)))) (fun (v_1 : Sl) (h : Heap) =>
  opK Tryz.prog .slice (Builtin.append_ #[T.sl_api_Entry, T.sl_api_Entry] T.sl_api_Entry #[(.slice v_1.a v_1.n v_1.c), (.slice l0.a l0.n l0.c)]) (fun (v_2 : Sl) (h : Heap) =>
  loopW (fun X_4 (s_3 : Sl × Int) (h : Heap) =>
  if (decide (s_3.2 < 12)) = true then
  callK Tryz.prog .agg F.kit_markEntry #[(.int .i64 1), (.int .i64 s_3.2)] (fun (v_5 : Array Value) (h : Heap) =>
  opK Tryz.prog .slice (Instr.buildSlice T.sl_api_Entry 1 #[(0, (.agg v_5))]) (fun (v_6 : Sl) (h : Heap) =>
  opK Tryz.prog .slice (Builtin.append_ #[T.sl_api_Entry, T.sl_api_Entry] T.sl_api_Entry #[(.slice s_3.1.a s_3.1.n s_3.1.c), (.slice v_6.a v_6.n v_6.c)]) (fun (v_7 : Sl) (h : Heap) =>
  X_4 (v_7, IntKind.i64.wrap (s_3.2 + 1)) h) h) h) h
  else
  sliceK s_3.1 none (some ((l0.n : Int))) none (sizeOfT Tryz.prog T.api_Entry) (fun (v_8 : Sl) =>
  R (.slice v_8.a v_8.n v_8.c) h)) (v_2, 0) h) h) h
def kit_LentEntries.ann : Ann := (.seq .leaf (.seq .leaf (.seq .leaf (.seq (.seq .leaf (.block (.loop [(3, .slice), (4, (.int .i64))] (.seq (.seq .leaf (.cond .leaf .leaf)) (.seq (.block .leaf) .leaf))))) (.seq .leaf .leaf)))))
theorem kit_LentEntries.eq (l0 : Sl) (R : Value → Heap → Prop) (h : Heap) : kit_LentEntries.body l0 R h = evFn Tryz.prog Tryz.f16 kit_LentEntries.ann [(.slice l0.a l0.n l0.c)] R h := by kernel_rfl
theorem kit_LentEntries.calls {l0 : Sl} {R : Value → Heap → Prop} {h : Heap} (H : kit_LentEntries.body l0 R h) : HC Tryz.prog F.kit_LentEntries #[(.slice l0.a l0.n l0.c)] R h :=
  evFn_sound mixed Tryz.func16 (by kernel_rfl) (kit_LentEntries.eq l0 R h ▸ H)

/-! (*zugzwang/zugzwangref20.Chain).Add -/
def ref20_Chain_Add.body (c0 : Option Addr) (l1 : Sl) (R : Value → Heap → Prop) (h : Heap) : Prop :=
  loopW (fun X_2 (s_1 : Int) (h : Heap) =>
  if (decide (s_1 < ((l1.n : Int)))) = true then
  idxK l1 s_1 (sizeOfT Tryz.prog T.api_Entry) (fun (a_3 : Addr) =>
  loadAggK (sizeOfT Tryz.prog T.api_Entry) h ((some a_3)) (fun (v_4 : Array Value) =>
  callK Tryz.prog (.int .i64) F.ref20_Chain_Why #[(.pointer c0), (.agg v_4)] (fun (v_5 : Int) (h : Heap) =>
  if (v_5 != 0) = true then
  R (.int .i64 v_5) h
  else
  derefK c0 (fun (a_6 : Addr) =>
  fldK ((some a_6)) 33 (fun (a_7 : Addr) =>
  idxK l1 s_1 (sizeOfT Tryz.prog T.api_Entry) (fun (a_8 : Addr) =>
  loadK .slice h ((some a_7)) (fun (v_9 : Sl) =>
  loadAggK (sizeOfT Tryz.prog T.api_Entry) h ((some a_8)) (fun (v_10 : Array Value) =>
  opK Tryz.prog .slice (Instr.buildSlice T.sl_api_Entry 1 #[(0, (.agg v_10))]) (fun (v_11 : Sl) (h : Heap) =>
  opK Tryz.prog .slice (Builtin.append_ #[T.sl_api_Entry, T.sl_api_Entry] T.sl_api_Entry #[(.slice v_9.a v_9.n v_9.c), (.slice v_11.a v_11.n v_11.c)]) (fun (v_12 : Sl) (h : Heap) =>
  derefK c0 (fun (a_13 : Addr) =>
  fldK ((some a_13)) 33 (fun (a_14 : Addr) =>
  storeK h ((some a_14)) (.slice v_12.a v_12.n v_12.c) (fun (h : Heap) =>
  X_2 (IntKind.i64.wrap (s_1 + 1)) h)))) h) h)))))) h))
  else
  R (.int .i64 0) h) 0 h
def ref20_Chain_Add.ann : Ann := (.seq .leaf (.seq (.seq .leaf (.block (.loop [(5, (.int .i64))] (.seq (.seq .leaf (.cond .leaf .leaf)) (.seq (.block (.seq .leaf (.seq (.seq .leaf (.cond (.seq .leaf .leaf) .leaf)) (.any (.loc 0 (.loc 1 (.loc 2 (.loc 3 (.loc 5 (.loc 6 (.loc 7 (.st 4 15360 (.st 8 15872 (.last 9 (.last 10 (.loc 11 (.loc 12 (.last 13 .done)))))))))))))))))) .leaf))))) (.seq .leaf .leaf)))
theorem ref20_Chain_Add.eq (c0 : Option Addr) (l1 : Sl) (R : Value → Heap → Prop) (h : Heap) : ref20_Chain_Add.body c0 l1 R h = evFn Tryz.prog Tryz.f17 ref20_Chain_Add.ann [(.pointer c0), (.slice l1.a l1.n l1.c)] R h := by kernel_rfl
theorem ref20_Chain_Add.calls {c0 : Option Addr} {l1 : Sl} {R : Value → Heap → Prop} {h : Heap} (H : ref20_Chain_Add.body c0 l1 R h) : HC Tryz.prog F.ref20_Chain_Add #[(.pointer c0), (.slice l1.a l1.n l1.c)] R h :=
  evFn_sound mixed Tryz.func17 (by kernel_rfl) (ref20_Chain_Add.eq c0 l1 R h ▸ H)

/-! zugzwang/zugzwangkit.KeptEntries -/
def kit_KeptEntries.body (out0 : Sl) (l1 : Sl) (R : Value → Heap → Prop) (h : Heap) : Prop :=
  if (((out0.n : Int)) != ((l1.n : Int))) = true then
  R (.bool false) h
  else
  sliceK out0 none (some (IntKind.i64.wrap (((l1.n : Int)) + 12))) none (sizeOfT Tryz.prog T.api_Entry) (fun (v_1 : Sl) =>
  loopW (fun X_3 (s_2 : Int) (h : Heap) =>
  if (decide (s_2 < ((v_1.n : Int)))) = true then
  if (decide (s_2 < ((l1.n : Int)))) = true then
  idxK v_1 s_2 (sizeOfT Tryz.prog T.api_Entry) (fun (a_4 : Addr) =>
  idxK l1 s_2 (sizeOfT Tryz.prog T.api_Entry) (fun (a_5 : Addr) =>
  loadAggK (sizeOfT Tryz.prog T.api_Entry) h ((some a_4)) (fun (v_6 : Array Value) =>
  loadAggK (sizeOfT Tryz.prog T.api_Entry) h ((some a_5)) (fun (v_7 : Array Value) =>
  eqK Tryz.prog (binSem .eql T.api_Entry (.tmp 31) (.tmp 35) (.agg v_6) (.agg v_7)) (fun (v_8 : Bool) =>
  if (!v_8) = true then
  R (.bool false) h
  else
  if (decide (s_2 ≥ ((l1.n : Int)))) = true then
  idxK v_1 s_2 (sizeOfT Tryz.prog T.api_Entry) (fun (a_9 : Addr) =>
  loadAggK (sizeOfT Tryz.prog T.api_Entry) h ((some a_9)) (fun (v_10 : Array Value) =>
  callK Tryz.prog .agg F.kit_markEntry #[(.int .i64 1), (.int .i64 (IntKind.i64.wrap (s_2 - ((l1.n : Int)))))] (fun (v_11 : Array Value) (h : Heap) =>
  stillAggK (sizeOfT Tryz.prog T.api_Entry) h ((some a_9)) v_10 ∧
  eqK Tryz.prog (binSem .eql T.api_Entry (.tmp 48) (.tmp 53) (.agg v_10) (.agg v_11)) (fun (v_12 : Bool) =>
  if (!v_12) = true then
  R (.bool false) h
  else
  X_3 (IntKind.i64.wrap (s_2 + 1)) h)) h))
  else
  X_3 (IntKind.i64.wrap (s_2 + 1)) h)))))
  else
  if (decide (s_2 ≥ ((l1.n : Int)))) = true then
  idxK v_1 s_2 (sizeOfT Tryz.prog T.api_Entry) (fun (a_13 : Addr) =>
  loadAggK (sizeOfT Tryz.prog T.api_Entry) h ((some a_13)) (fun (v_14 : Array Value) =>
  callK Tryz.prog .agg F.kit_markEntry #[(.int .i64 1), (.int .i64 (IntKind.i64.wrap (s_2 - ((l1.n : Int)))))] (fun (v_15 : Array Value) (h : Heap) =>
  stillAggK (sizeOfT Tryz.prog T.api_Entry) h ((some a_13)) v_14 ∧
  eqK Tryz.prog (binSem .eql T.api_Entry (.tmp 48) (.tmp 53) (.agg v_14) (.agg v_15)) (fun (v_16 : Bool) =>
  if (!v_16) = true then
  R (.bool false) h
  else
  X_3 (IntKind.i64.wrap (s_2 + 1)) h)) h))
  else
  X_3 (IntKind.i64.wrap (s_2 + 1)) h
  else
  R (.bool true) h) 0 h)
def kit_KeptEntries.ann : Ann := (.seq .leaf (.seq (.seq .leaf (.cond (.seq .leaf .leaf) .leaf)) (.seq .leaf (.seq (.seq .leaf (.block (.loop [(6, (.int .i64))] (.seq (.seq .leaf (.cond .leaf .leaf)) (.seq (.block (.seq (.any (.loc 0 (.loc 1 (.loc 2 (.loc 3 (.loc 4 (.locA 5 (.loc 6 (.loc 7 (.loc 9 (.loc 10 (.loc 11 (.st 8 34359730176 (.st 12 34359730176 (.loc 13 (.loc 14 (.loc 15 (.loc 16 (.locA 17 (.loc 18 (.loc 19 (.loc 20 (.loc 21 (.loc 22 (.loc 23 (.loc 24 (.loc 25 (.loc 26 (.loc 27 (.loc 28 (.loc 29 (.loc 30 (.loc 31 (.loc 32 (.loc 33 (.loc 34 .done))))))))))))))))) (.loc 18 (.loc 19 (.loc 20 (.loc 21 (.locA 22 (.loc 23 (.loc 24 (.loc 26 (.loc 27 (.loc 28 (.loc 29 (.st 25 32212254720 (.last 30 (.loc 31 (.loc 32 (.loc 33 (.loc 34 .done)))))))))))) (.loc 23 (.loc 24 (.loc 25 (.loc 26 (.loc 27 (.loc 28 (.loc 29 (.loc 30 (.loc 31 (.loc 32 (.loc 33 (.loc 34 .done))))))))))))))))))))))))))))) (.loc 6 (.loc 7 (.loc 8 (.loc 9 (.loc 10 (.loc 11 (.loc 12 (.loc 13 (.loc 14 (.loc 15 (.loc 16 (.loc 17 (.loc 18 (.loc 19 (.loc 20 (.loc 21 (.locA 22 (.loc 23 (.loc 24 (.loc 26 (.loc 27 (.loc 28 (.loc 29 (.st 25 32212254720 (.last 30 (.loc 31 (.loc 32 (.loc 33 (.loc 34 .done)))))))))))) (.loc 23 (.loc 24 (.loc 25 (.loc 26 (.loc 27 (.loc 28 (.loc 29 (.loc 30 (.loc 31 (.loc 32 (.loc 33 (.loc 34 .done)))))))))))))))))))))))))))))))))))) (.cond (.seq .leaf .leaf) .leaf))) .leaf))))) (.seq .leaf .leaf)))))
theorem kit_KeptEntries.eq (out0 : Sl) (l1 : Sl) (R : Value → Heap → Prop) (h : Heap) : kit_KeptEntries.body out0 l1 R h = evFn Tryz.prog Tryz.f18 kit_KeptEntries.ann [(.slice out0.a out0.n out0.c), (.slice l1.a l1.n l1.c)] R h := by kernel_rfl
theorem kit_KeptEntries.calls {out0 : Sl} {l1 : Sl} {R : Value → Heap → Prop} {h : Heap} (H : kit_KeptEntries.body out0 l1 R h) : HC Tryz.prog F.kit_KeptEntries #[(.slice out0.a out0.n out0.c), (.slice l1.a l1.n l1.c)] R h :=
  evFn_sound mixed Tryz.func18 (by kernel_rfl) (kit_KeptEntries.eq out0 l1 R h ▸ H)

/-! zugzwang/zugzwangkit.SameEntries -/
def kit_SameEntries.body (a0 : Sl) (b1 : Sl) (R : Value → Heap → Prop) (h : Heap) : Prop :=
  if (((a0.n : Int)) != ((b1.n : Int))) = true then
  R (.bool false) h
  else
  loopW (fun X_2 (s_1 : Int) (h : Heap) =>
  if (decide (s_1 < ((a0.n : Int)))) = true then
  idxK a0 s_1 (sizeOfT Tryz.prog T.api_Entry) (fun (a_3 : Addr) =>
  loadAggK (sizeOfT Tryz.prog T.api_Entry) h ((some a_3)) (fun (v_4 : Array Value) =>
  idxK b1 s_1 (sizeOfT Tryz.prog T.api_Entry) (fun (a_5 : Addr) =>
  loadAggK (sizeOfT Tryz.prog T.api_Entry) h ((some a_5)) (fun (v_6 : Array Value) =>
  eqK Tryz.prog (binSem .neq T.api_Entry (.tmp 20) (.tmp 24) (.agg v_4) (.agg v_6)) (fun (v_7 : Bool) =>
  if v_7 = true then
  R (.bool false) h
  else
  X_2 (IntKind.i64.wrap (s_1 + 1)) h)))))
  else
  R (.bool true) h) 0 h
def kit_SameEntries.ann : Ann := (.seq .leaf (.seq (.seq .leaf (.cond (.seq .leaf .leaf) .leaf)) (.seq (.seq .leaf (.block (.loop [(5, (.int .i64))] (.seq (.seq .leaf (.cond .leaf .leaf)) (.seq (.block (.seq .leaf (.cond (.seq .leaf .leaf) .leaf))) .leaf))))) (.seq .leaf .leaf))))
theorem kit_SameEntries.eq (a0 : Sl) (b1 : Sl) (R : Value → Heap → Prop) (h : Heap) : kit_SameEntries.body a0 b1 R h = evFn Tryz.prog Tryz.f42 kit_SameEntries.ann [(.slice a0.a a0.n a0.c), (.slice b1.a b1.n b1.c)] R h := by kernel_rfl
theorem kit_SameEntries.calls {a0 : Sl} {b1 : Sl} {R : Value → Heap → Prop} {h : Heap} (H : kit_SameEntries.body a0 b1 R h) : HC Tryz.prog F.kit_SameEntries #[(.slice a0.a a0.n a0.c), (.slice b1.a b1.n b1.c)] R h :=
  evFn_sound mixed Tryz.func42 (by kernel_rfl) (kit_SameEntries.eq a0 b1 R h ▸ H)

/-! (*zugzwang/chain.Chain).Tag -/
def chain_Chain_Tag.body (c0 : Option Addr) (n1 : Int) (R : Value → Heap → Prop) (h : Heap) : Prop :=
  newK h (zerosOf Tryz.prog T.api_Tag) T.api_Tag (fun (t_1 : Option Addr) (h : Heap) =>
  if (decide (n1 < 0)) = true then
  loadAggK (sizeOfT Tryz.prog T.api_Tag) h t_1 (fun (v_2 : Array Value) =>
  storeAggK (sizeOfT Tryz.prog T.api_Tag) h t_1 v_2 (fun (h : Heap) =>
  quietK Tryz.prog .agg (Instr.loadAt T.api_Tag (.pointer t_1)) (fun (r_3 : Array Value) =>
  R (.tuple #[(.agg r_3), (.bool false)]) h) h))
  else
  callK Tryz.prog (.int .i64) F.chain_Chain_Len #[(.pointer c0)] (fun (v_4 : Int) (h : Heap) =>
  if (decide (n1 ≥ v_4)) = true then
  loadAggK (sizeOfT Tryz.prog T.api_Tag) h t_1 (fun (v_5 : Array Value) =>
  storeAggK (sizeOfT Tryz.prog T.api_Tag) h t_1 v_5 (fun (h : Heap) =>
  quietK Tryz.prog .agg (Instr.loadAt T.api_Tag (.pointer t_1)) (fun (r_6 : Array Value) =>
  R (.tuple #[(.agg r_6), (.bool false)]) h) h))
  else
  derefK c0 (fun (a_7 : Addr) =>
  fldK ((some a_7)) 34 (fun (a_8 : Addr) =>
  loadK .slice h ((some a_8)) (fun (v_9 : Sl) =>
  idxK v_9 n1 (sizeOfT Tryz.prog T.api_Tag) (fun (a_10 : Addr) =>
  loadAggK (sizeOfT Tryz.prog T.api_Tag) h ((some a_10)) (fun (v_11 : Array Value) =>
  storeAggK (sizeOfT Tryz.prog T.api_Tag) h t_1 v_11 (fun (h : Heap) =>
  quietK Tryz.prog .agg (Instr.loadAt T.api_Tag (.pointer t_1)) (fun (r_12 : Array Value) =>
  R (.tuple #[(.agg r_12), (.bool true)]) h) h))))))) h)
def chain_Chain_Tag.ann : Ann := (.seq .leaf (.seq (.seq .leaf (.cond (.seq .leaf .leaf) .leaf)) (.seq .leaf .leaf)))
theorem chain_Chain_Tag.eq (c0 : Option Addr) (n1 : Int) (R : Value → Heap → Prop) (h : Heap) : chain_Chain_Tag.body c0 n1 R h = evFn Tryz.prog Tryz.f43 chain_Chain_Tag.ann [(.pointer c0), (.int .i64 n1)] R h := by kernel_rfl
theorem chain_Chain_Tag.calls {c0 : Option Addr} {n1 : Int} {R : Value → Heap → Prop} {h : Heap} (H : chain_Chain_Tag.body c0 n1 R h) : HC Tryz.prog F.chain_Chain_Tag #[(.pointer c0), (.int .i64 n1)] R h :=
  evFn_sound mixed Tryz.func43 (by kernel_rfl) (chain_Chain_Tag.eq c0 n1 R h ▸ H)

/-! zugzwang/zugzwanglaw20.same -/
def law20_same.body (c0 : Option Addr) (q1 : Option Addr) (n2 : Int) (R : Value → Heap → Prop) (h : Heap) : Prop :=
  derefK q1 (fun (a_1 : Addr) =>
  fldK ((some a_1)) 33 (fun (a_2 : Addr) =>
  loadK .slice h ((some a_2)) (fun (v_3 : Sl) =>
  callK Tryz.prog (.int .i64) F.chain_Chain_Len #[(.pointer c0)] (fun (v_4 : Int) (h : Heap) =>
  stillK .slice h ((some a_2)) v_3 ∧
  if (v_4 != ((v_3.n : Int))) = true then
  R (.bool false) h
  else
  callK Tryz.prog .agg F.chain_Chain_Head #[(.pointer c0)] (fun (v_5 : Array Value) (h : Heap) =>
  callK Tryz.prog .agg F.ref20_Chain_Head #[(.pointer q1)] (fun (v_6 : Array Value) (h : Heap) =>
  eqK Tryz.prog (binSem .neq T.api_Tag (.tmp 24) (.tmp 26) (.agg v_5) (.agg v_6)) (fun (v_7 : Bool) =>
  if v_7 = true then
  R (.bool false) h
  else
  derefK q1 (fun (a_8 : Addr) =>
  fldK ((some a_8)) 33 (fun (a_9 : Addr) =>
  loadK .slice h ((some a_9)) (fun (v_10 : Sl) =>
  callK Tryz.prog .slice F.chain_Chain_Entries #[(.pointer c0)] (fun (v_11 : Sl) (h : Heap) =>
  stillK .slice h ((some a_9)) v_10 ∧
  callK Tryz.prog .bool F.kit_SameEntries #[(.slice v_11.a v_11.n v_11.c), (.slice v_10.a v_10.n v_10.c)] (fun (v_12 : Bool) (h : Heap) =>
  if (!v_12) = true then
  R (.bool false) h
  else
  derefK q1 (fun (a_13 : Addr) =>
  fldK ((some a_13)) 33 (fun (a_14 : Addr) =>
  derefK q1 (fun (a_15 : Addr) =>
  fldK ((some a_15)) 33 (fun (a_16 : Addr) =>
  loadK .slice h ((some a_14)) (fun (v_17 : Sl) =>
  loadK .slice h ((some a_16)) (fun (v_18 : Sl) =>
  newSlK h 5 #[(.int .i64 n2), (.int .i64 ((-1))), (.int .i64 0), (.int .i64 (IntKind.i64.wrap (((v_17.n : Int)) - 1))), (.int .i64 ((v_18.n : Int)))] T.int (fun (v_19 : Sl) (h : Heap) =>
  loopW (fun X_21 (s_20 : Int) (h : Heap) =>
  if (decide (s_20 < ((v_19.n : Int)))) = true then
  idxK v_19 s_20 (sizeOfT Tryz.prog T.int) (fun (a_22 : Addr) =>
  loadK (.int .i64) h ((some a_22)) (fun (v_23 : Int) =>
  callK Tryz.prog (Kd.pair .agg .bool) F.chain_Chain_At #[(.pointer c0), (.int .i64 v_23)] (fun (v_24 : Array Value × Bool) (h : Heap) =>
  newK h (zerosOf Tryz.prog T.api_Entry) T.api_Entry (fun (e_25 : Option Addr) (h : Heap) =>
  storeAggK (sizeOfT Tryz.prog T.api_Entry) h e_25 v_24.1 (fun (h : Heap) =>
  idxK v_19 s_20 (sizeOfT Tryz.prog T.int) (fun (a_26 : Addr) =>
  loadK (.int .i64) h ((some a_26)) (fun (v_27 : Int) =>
  callK Tryz.prog (Kd.pair .agg .bool) F.chain_Chain_Tag #[(.pointer c0), (.int .i64 v_27)] (fun (v_28 : Array Value × Bool) (h : Heap) =>
  newK h (zerosOf Tryz.prog T.api_Tag) T.api_Tag (fun (t_29 : Option Addr) (h : Heap) =>
  storeAggK (sizeOfT Tryz.prog T.api_Tag) h t_29 v_28.1 (fun (h : Heap) =>
  joinW (fun (s_30 : Bool) (h : Heap) =>
  if (!(v_24.2 == s_30)) = true then
  R (.bool false) h
  else
  if (!(v_28.2 == s_30)) = true then
  R (.bool false) h
  else
  if s_30 = true then
  derefK q1 (fun (a_31 : Addr) =>
  fldK ((some a_31)) 33 (fun (a_32 : Addr) =>
  idxK v_19 s_20 (sizeOfT Tryz.prog T.int) (fun (a_33 : Addr) =>
  loadAggK (sizeOfT Tryz.prog T.api_Entry) h e_25 (fun (v_34 : Array Value) =>
  loadK .slice h ((some a_32)) (fun (v_35 : Sl) =>
  loadK (.int .i64) h ((some a_33)) (fun (v_36 : Int) =>
  idxK v_35 v_36 (sizeOfT Tryz.prog T.api_Entry) (fun (a_37 : Addr) =>
  loadAggK (sizeOfT Tryz.prog T.api_Entry) h ((some a_37)) (fun (v_38 : Array Value) =>
  eqK Tryz.prog (binSem .neq T.api_Entry (.tmp 104) (.tmp 114) (.agg v_34) (.agg v_38)) (fun (v_39 : Bool) =>
  if v_39 = true then
  R (.bool false) h
  else
  derefK q1 (fun (a_40 : Addr) =>
  fldK ((some a_40)) 0 (fun (a_41 : Addr) =>
  derefK q1 (fun (a_42 : Addr) =>
  fldK ((some a_42)) 33 (fun (a_43 : Addr) =>
  idxK v_19 s_20 (sizeOfT Tryz.prog T.int) (fun (a_44 : Addr) =>
  loadAggK (sizeOfT Tryz.prog T.api_Tag) h t_29 (fun (v_45 : Array Value) =>
  loadK .ptr h ((some a_41)) (fun (v_46 : Option Addr) =>
  loadK .slice h ((some a_43)) (fun (v_47 : Sl) =>
  loadK (.int .i64) h ((some a_44)) (fun (v_48 : Int) =>
  idxK v_47 v_48 (sizeOfT Tryz.prog T.api_Entry) (fun (a_49 : Addr) =>
  loadAggK (sizeOfT Tryz.prog T.api_Entry) h ((some a_49)) (fun (v_50 : Array Value) =>
  callK Tryz.prog .agg F.ref20_Tag #[(.pointer v_46), (.agg v_50)] (fun (v_51 : Array Value) (h : Heap) =>
  stillAggK (sizeOfT Tryz.prog T.api_Tag) h t_29 v_45 ∧
  eqK Tryz.prog (binSem .neq T.api_Tag (.tmp 117) (.tmp 132) (.agg v_45) (.agg v_51)) (fun (v_52 : Bool) =>
  if v_52 = true then
  R (.bool false) h
  else
  if (!s_30) = true then
  buildK Tryz.prog (Instr.build T.api_Entry #[]) (fun (v_53 : Array Value) =>
  loadAggK (sizeOfT Tryz.prog T.api_Entry) h e_25 (fun (v_54 : Array Value) =>
  eqK Tryz.prog (binSem .neq T.api_Entry (.tmp 141) (.tmp 142) (.agg v_54) (.agg v_53)) (fun (v_55 : Bool) =>
  if v_55 = true then
  R (.bool false) h
  else
  buildK Tryz.prog (Instr.build T.api_Tag #[]) (fun (v_56 : Array Value) =>
  loadAggK (sizeOfT Tryz.prog T.api_Tag) h t_29 (fun (v_57 : Array Value) =>
  eqK Tryz.prog (binSem .neq T.api_Tag (.tmp 145) (.tmp 146) (.agg v_57) (.agg v_56)) (fun (v_58 : Bool) =>
  if v_58 = true then
  R (.bool false) h
  else
  X_21 (IntKind.i64.wrap (s_20 + 1)) h))))))
  else
  X_21 (IntKind.i64.wrap (s_20 + 1)) h)) h))))))))))))))))))))
  else
  if (!s_30) = true then
  buildK Tryz.prog (Instr.build T.api_Entry #[]) (fun (v_59 : Array Value) =>
  loadAggK (sizeOfT Tryz.prog T.api_Entry) h e_25 (fun (v_60 : Array Value) =>
  eqK Tryz.prog (binSem .neq T.api_Entry (.tmp 141) (.tmp 142) (.agg v_60) (.agg v_59)) (fun (v_61 : Bool) =>
  if v_61 = true then
  R (.bool false) h
  else
  buildK Tryz.prog (Instr.build T.api_Tag #[]) (fun (v_62 : Array Value) =>
  loadAggK (sizeOfT Tryz.prog T.api_Tag) h t_29 (fun (v_63 : Array Value) =>
  eqK Tryz.prog (binSem .neq T.api_Tag (.tmp 145) (.tmp 146) (.agg v_63) (.agg v_62)) (fun (v_64 : Bool) =>
  if v_64 = true then
  R (.bool false) h
  else
  X_21 (IntKind.i64.wrap (s_20 + 1)) h))))))
  else
  X_21 (IntKind.i64.wrap (s_20 + 1)) h)
  (fun J_65 =>
  idxK v_19 s_20 (sizeOfT Tryz.prog T.int) (fun (a_66 : Addr) =>
  loadK (.int .i64) h ((some a_66)) (fun (v_67 : Int) =>
  if (decide (v_67 ≥ 0)) = true then
  idxK v_19 s_20 (sizeOfT Tryz.prog T.int) (fun (a_68 : Addr) =>
  loadK (.int .i64) h ((some a_68)) (fun (v_69 : Int) =>
  derefK q1 (fun (a_70 : Addr) =>
  fldK ((some a_70)) 33 (fun (a_71 : Addr) =>
  loadK .slice h ((some a_71)) (fun (v_72 : Sl) =>
  J_65 (decide (v_69 < ((v_72.n : Int)))) h)))))
  else
  J_65 false h)))))) h))))) h))
  else
  R (.bool true) h) 0 h)))))))) h) h))))) h) h) h)))
def law20_same.ann : Ann := (.seq .leaf (.seq (.seq (.any (.loc 0 (.loc 2 (.loc 3 (.loc 4 (.st 5 33554368 (.loc 6 (.last 1 (.loc 7 (.loc 8 (.locA 9 (.loc 10 (.loc 11 (.loc 12 (.loc 13 (.loc 14 (.loc 15 (.loc 16 (.loc 17 (.loc 18 (.loc 19 (.loc 20 (.loc 21 (.loc 22 (.loc 23 (.loc 24 .done))))))))))))))) (.loc 11 (.last 10 (.last 12 (.loc 13 (.loc 14 (.loc 15 (.locA 16 (.loc 17 (.loc 18 (.loc 19 (.loc 20 (.loc 21 (.loc 22 (.loc 23 (.loc 24 .done)))))))) (.loc 18 (.loc 19 (.loc 20 (.st 21 29360128 (.last 17 (.last 22 (.loc 23 (.loc 24 .done)))))))))))))))))))))))))) (.cond (.seq .leaf .leaf) .leaf)) (.seq (.any (.loc 0 (.loc 1 (.loc 2 (.loc 3 (.loc 7 (.loc 8 (.loc 9 (.st 4 12384 (.loc 5 (.loc 6 (.st 10 14336 (.loc 11 (.last 12 (.loc 13 .done))))))))))))))) (.seq (.seq .leaf (.block (.loop [(8, (.int .i64))] (.seq (.seq .leaf (.cond .leaf .leaf)) (.seq (.block (.seq .leaf (.seq .leaf (.join [(13, .bool)] .leaf (.seq (.any (.loc 0 (.loc 1 (.loc 2 (.loc 3 (.locA 4 (.loc 5 (.loc 6 (.loc 7 (.loc 8 (.loc 9 (.loc 10 (.loc 11 (.loc 12 (.loc 13 (.loc 14 (.loc 15 (.loc 16 (.loc 17 (.loc 18 (.loc 19 (.loc 20 (.loc 21 (.loc 22 (.loc 23 (.loc 24 (.loc 25 (.loc 26 (.loc 27 (.loc 28 (.loc 29 (.loc 30 (.loc 31 (.loc 32 (.loc 33 (.loc 34 (.loc 35 (.loc 36 (.loc 37 (.loc 38 (.loc 39 (.loc 40 (.loc 41 (.loc 42 (.loc 43 (.loc 44 (.loc 45 (.loc 46 (.loc 47 (.loc 48 (.loc 49 (.loc 50 (.loc 51 (.loc 52 (.loc 53 (.loc 54 (.loc 55 (.loc 56 (.loc 57 .done))))))))))))))))))))))))))))))))))))))))))))))))))))) (.loc 5 (.loc 6 (.loc 7 (.loc 8 (.locA 9 (.loc 10 (.loc 11 (.loc 12 (.loc 13 (.loc 14 (.loc 15 (.loc 16 (.loc 17 (.loc 18 (.loc 19 (.loc 20 (.loc 21 (.loc 22 (.loc 23 (.loc 24 (.loc 25 (.loc 26 (.loc 27 (.loc 28 (.loc 29 (.loc 30 (.loc 31 (.loc 32 (.loc 33 (.loc 34 (.loc 35 (.loc 36 (.loc 37 (.loc 38 (.loc 39 (.loc 40 (.loc 41 (.loc 42 (.loc 43 (.loc 44 (.loc 45 (.loc 46 (.loc 47 (.loc 48 (.loc 49 (.loc 50 (.loc 51 (.loc 52 (.loc 53 (.loc 54 (.loc 55 (.loc 56 (.loc 57 .done)))))))))))))))))))))))))))))))))))))))))))))))) (.loc 10 (.locA 12 (.loc 13 (.loc 14 (.loc 16 (.loc 17 (.loc 18 (.st 11 288230376147517440 (.st 15 288230376150663168 (.st 19 288230376150663168 (.loc 20 (.st 21 288230376147517440 (.loc 22 (.loc 23 (.locA 25 (.loc 24 (.loc 26 (.loc 27 (.loc 28 (.loc 29 (.loc 30 (.loc 31 (.loc 32 (.loc 33 (.loc 34 (.loc 35 (.loc 36 (.loc 37 (.loc 38 (.loc 39 (.loc 40 (.loc 41 (.loc 42 (.loc 43 (.loc 44 (.loc 45 (.loc 46 (.loc 47 (.loc 48 (.loc 49 (.loc 50 (.loc 51 (.loc 52 (.loc 53 (.loc 54 (.loc 55 (.loc 56 (.loc 57 .done))))))))))))))))))))))))))))))))) (.loc 26 (.loc 27 (.loc 29 (.loc 30 (.loc 31 (.loc 33 (.loc 34 (.loc 35 (.st 24 288229276640083968 (.st 28 288229826395897856 (.st 32 288230238712758272 (.st 36 288230238712758272 (.loc 37 (.st 38 288229826395897856 (.last 39 (.loc 40 (.loc 41 (.loc 42 (.loc 43 (.loc 44 (.locA 45 (.loc 46 (.loc 47 (.loc 48 (.loc 49 (.loc 50 (.loc 51 (.loc 52 (.loc 53 (.loc 54 (.loc 55 (.loc 56 (.loc 57 .done)))))))))))) (.loc 46 (.loc 47 (.locA 49 (.st 48 287104476244869120 (.loc 50 (.loc 51 (.locA 53 (.loc 52 (.loc 54 (.loc 55 (.loc 56 (.loc 57 .done))))) (.st 52 270215977642229760 (.loc 54 (.loc 55 (.loc 56 (.loc 57 .done))))))))) (.loc 48 (.loc 50 (.loc 51 (.loc 52 (.loc 53 (.loc 54 (.loc 55 (.loc 56 (.loc 57 .done)))))))))))))))))))))))))))))))))))))))))))))) (.loc 11 (.loc 13 (.loc 14 (.loc 15 (.loc 16 (.loc 17 (.loc 18 (.loc 19 (.loc 20 (.loc 21 (.loc 22 (.loc 23 (.loc 24 (.loc 25 (.loc 26 (.loc 27 (.loc 28 (.loc 29 (.loc 30 (.loc 31 (.loc 32 (.loc 33 (.loc 34 (.loc 35 (.loc 36 (.loc 37 (.loc 38 (.loc 39 (.loc 40 (.loc 41 (.loc 42 (.loc 43 (.loc 44 (.loc 45 (.loc 46 (.loc 47 (.locA 49 (.st 48 287104476244869120 (.loc 50 (.loc 51 (.locA 53 (.loc 52 (.loc 54 (.loc 55 (.loc 56 (.loc 57 .done))))) (.st 52 270215977642229760 (.loc 54 (.loc 55 (.loc 56 (.loc 57 .done))))))))) (.loc 48 (.loc 50 (.loc 51 (.loc 52 (.loc 53 (.loc 54 (.loc 55 (.loc 56 (.loc 57 .done))))))))))))))))))))))))))))))))))))))))))))))))))))))))))) (.cond (.seq .leaf .leaf) .leaf)))))) .leaf))))) (.seq .leaf .leaf)))))
theorem law20_same.eq (c0 : Option Addr) (q1 : Option Addr) (n2 : Int) (R : Value → Heap → Prop) (h : Heap) : law20_same.body c0 q1 n2 R h = evFn Tryz.prog Tryz.f19 law20_same.ann [(.pointer c0), (.pointer q1), (.int .i64 n2)] R h := by kernel_rfl
theorem law20_same.calls {c0 : Option Addr} {q1 : Option Addr} {n2 : Int} {R : Value → Heap → Prop} {h : Heap} (H : law20_same.body c0 q1 n2 R h) : HC Tryz.prog F.law20_same #[(.pointer c0), (.pointer q1), (.int .i64 n2)] R h :=
  evFn_sound mixed Tryz.func19 (by kernel_rfl) (law20_same.eq c0 q1 n2 R h ▸ H)

/-! zugzwang/zugzwanglaw20.ChainAdds -/
def law20_ChainAdds.body (game0 : Array Value) (l1 : Sl) (R : Value → Heap → Prop) (h : Heap) : Prop :=
  newK h game0 T.api_Tag (fun (game_1 : Option Addr) (h : Heap) =>
  if (decide (((l1.n : Int)) > 120)) = true then
  callK Tryz.prog .bool F.law20_awake #[] (fun (v_2 : Bool) (h : Heap) =>
  R (.bool v_2) h) h
  else
  joinW (fun (s_3 : Option Addr × Option Addr) (h : Heap) =>
  loopW (fun X_5 (s_4 : Option Addr × Int) (h : Heap) =>
  if (decide (s_4.2 < ((l1.n : Int)))) = true then
  idxK l1 s_4.2 (sizeOfT Tryz.prog T.zugzwanglaw20_Deed) (fun (a_6 : Addr) =>
  loadAggK (sizeOfT Tryz.prog T.zugzwanglaw20_Deed) h ((some a_6)) (fun (v_7 : Array Value) =>
  newK h (zerosOf Tryz.prog T.zugzwanglaw20_Deed) T.zugzwanglaw20_Deed (fun (d_8 : Option Addr) (h : Heap) =>
  storeAggK (sizeOfT Tryz.prog T.zugzwanglaw20_Deed) h d_8 v_7 (fun (h : Heap) =>
  fldK d_8 2 (fun (a_9 : Addr) =>
  loadAggK (sizeOfT Tryz.prog T.api_Body) h ((some a_9)) (fun (v_10 : Array Value) =>
  callK Tryz.prog (Kd.pair .agg (.int .i64)) F.chain_Chain_Next #[(.pointer s_4.1), (.agg v_10)] (fun (v_11 : Array Value × Int) (h : Heap) =>
  newK h (zerosOf Tryz.prog T.api_Entry) T.api_Entry (fun (x_12 : Option Addr) (h : Heap) =>
  storeAggK (sizeOfT Tryz.prog T.api_Entry) h x_12 v_11.1 (fun (h : Heap) =>
  fldK d_8 2 (fun (a_13 : Addr) =>
  loadAggK (sizeOfT Tryz.prog T.api_Body) h ((some a_13)) (fun (v_14 : Array Value) =>
  callK Tryz.prog (Kd.pair .agg (.int .i64)) F.ref20_Chain_Next #[(.pointer s_3.2), (.agg v_14)] (fun (v_15 : Array Value × Int) (h : Heap) =>
  newK h (zerosOf Tryz.prog T.api_Entry) T.api_Entry (fun (y_16 : Option Addr) (h : Heap) =>
  storeAggK (sizeOfT Tryz.prog T.api_Entry) h y_16 v_15.1 (fun (h : Heap) =>
  loadAggK (sizeOfT Tryz.prog T.api_Entry) h x_12 (fun (v_17 : Array Value) =>
  loadAggK (sizeOfT Tryz.prog T.api_Entry) h y_16 (fun (v_18 : Array Value) =>
  eqK Tryz.prog (binSem .neq T.api_Entry (.tmp 51) (.tmp 52) (.agg v_17) (.agg v_18)) (fun (v_19 : Bool) =>
  if v_19 = true then
  R (.bool false) h
  else
  if (v_11.2 != v_15.2) = true then
  R (.bool false) h
  else
  fldK d_8 72 (fun (a_20 : Addr) =>
  fldK d_8 72 (fun (a_21 : Addr) =>
  loadAggK (sizeOfT Tryz.prog T.api_Entry) h ((some a_20)) (fun (v_22 : Array Value) =>
  loadAggK (sizeOfT Tryz.prog T.api_Entry) h ((some a_21)) (fun (v_23 : Array Value) =>
  callK Tryz.prog (.int .i64) F.chain_Chain_Why #[(.pointer s_4.1), (.agg v_22)] (fun (v_24 : Int) (h : Heap) =>
  stillAggK (sizeOfT Tryz.prog T.api_Entry) h ((some a_21)) v_23 ∧
  callK Tryz.prog (.int .i64) F.ref20_Chain_Why #[(.pointer s_3.2), (.agg v_23)] (fun (v_25 : Int) (h : Heap) =>
  if (v_24 != v_25) = true then
  R (.bool false) h
  else
  fldK d_8 0 (fun (a_26 : Addr) =>
  loadK (.int .i64) h ((some a_26)) (fun (v_27 : Int) =>
  callK Tryz.prog (.int .i64) F.kit_Pick #[(.int .i64 v_27), (.int .i64 7)] (fun (v_28 : Int) (h : Heap) =>
  if (v_28 == 6) = true then
  callK Tryz.prog .ptr F.chain_Chain_Copy #[(.pointer s_4.1)] (fun (v_29 : Option Addr) (h : Heap) =>
  loadAggK (sizeOfT Tryz.prog T.api_Entry) h x_12 (fun (v_30 : Array Value) =>
  opK Tryz.prog .slice (Instr.buildSlice T.sl_api_Entry 1 #[(0, (.agg v_30))]) (fun (v_31 : Sl) (h : Heap) =>
  callK Tryz.prog (.int .i64) F.chain_Chain_Add #[(.pointer s_4.1), (.slice v_31.a v_31.n v_31.c)] (fun (v_32 : Int) (h : Heap) =>
  callK Tryz.prog .slice F.chain_Chain_Entries #[(.pointer s_4.1)] (fun (v_33 : Sl) (h : Heap) =>
  callK Tryz.prog .unit F.kit_OverEntries #[(.slice v_33.a v_33.n v_33.c)] (fun (v_34 : Unit) (h : Heap) =>
  X_5 (v_29, IntKind.i64.wrap (s_4.2 + 1)) h) h) h) h) h)) h
  else
  loadAggK (sizeOfT Tryz.prog T.zugzwanglaw20_Deed) h d_8 (fun (v_35 : Array Value) =>
  callK Tryz.prog .slice F.law20_entries #[(.pointer s_3.2), (.agg v_35)] (fun (v_36 : Sl) (h : Heap) =>
  callK Tryz.prog .slice F.kit_LentEntries #[(.slice v_36.a v_36.n v_36.c)] (fun (v_37 : Sl) (h : Heap) =>
  callK Tryz.prog (.int .i64) F.chain_Chain_Add #[(.pointer s_4.1), (.slice v_37.a v_37.n v_37.c)] (fun (v_38 : Int) (h : Heap) =>
  callK Tryz.prog (.int .i64) F.ref20_Chain_Add #[(.pointer s_3.2), (.slice v_36.a v_36.n v_36.c)] (fun (v_39 : Int) (h : Heap) =>
  if (v_38 != v_39) = true then
  R (.bool false) h
  else
  callK Tryz.prog .bool F.kit_KeptEntries #[(.slice v_37.a v_37.n v_37.c), (.slice v_36.a v_36.n v_36.c)] (fun (v_40 : Bool) (h : Heap) =>
  if (!v_40) = true then
  R (.bool false) h
  else
  fldK d_8 1 (fun (a_41 : Addr) =>
  loadK (.int .i64) h ((some a_41)) (fun (v_42 : Int) =>
  callK Tryz.prog .bool F.law20_same #[(.pointer s_4.1), (.pointer s_3.2), (.int .i64 v_42)] (fun (v_43 : Bool) (h : Heap) =>
  if (!v_43) = true then
  R (.bool false) h
  else
  X_5 (s_4.1, IntKind.i64.wrap (s_4.2 + 1)) h) h))) h) h) h) h) h)) h))) h) h)))))))))) h))))) h))))))
  else
  callK Tryz.prog .bool F.law20_same #[(.pointer s_4.1), (.pointer s_3.2), (.int .i64 0)] (fun (v_44 : Bool) (h : Heap) =>
  if v_44 = true then
  callK Tryz.prog .bool F.law20_awake #[] (fun (v_45 : Bool) (h : Heap) =>
  R (.bool v_45) h) h
  else
  R (.bool false) h) h) (s_3.1, 0) h)
  (fun J_46 =>
  buildK Tryz.prog (Instr.build T.zugzwangref04_Maker #[(0, (.bool true))]) (fun (v_47 : Array Value) =>
  loadAggK (sizeOfT Tryz.prog T.api_Tag) h game_1 (fun (v_48 : Array Value) =>
  loadAggK (sizeOfT Tryz.prog T.api_Tag) h game_1 (fun (v_49 : Array Value) =>
  ((callK Tryz.prog .ptr F.law20_of #[(.bool true), (.agg v_48)] (fun (v_50 : Option Addr) (h : Heap) =>
  stillAggK (sizeOfT Tryz.prog T.api_Tag) h game_1 v_49 ∧
  newK h v_47 T.zugzwangref04_Maker (fun (v_51 : Option Addr) (h : Heap) =>
  buildK Tryz.prog (Instr.build T.zugzwangref20_Chain #[(0, (.pointer v_51)), (1, (.agg v_49))]) (fun (v_52 : Array Value) =>
  newK h v_52 T.zugzwangref20_Chain (fun (v_53 : Option Addr) (h : Heap) =>
  J_46 (v_50, v_53) h)))) h) ∧
  (newK h v_47 T.zugzwangref04_Maker (fun (v_54 : Option Addr) (h : Heap) =>
  buildK Tryz.prog (Instr.build T.zugzwangref20_Chain #[(0, (.pointer v_54)), (1, (.agg v_49))]) (fun (v_55 : Array Value) =>
  ((callK Tryz.prog .ptr F.law20_of #[(.bool true), (.agg v_48)] (fun (v_56 : Option Addr) (h : Heap) =>
  stillAggK (sizeOfT Tryz.prog T.api_Tag) h game_1 v_49 ∧
  newK h v_55 T.zugzwangref20_Chain (fun (v_57 : Option Addr) (h : Heap) =>
  J_46 (v_56, v_57) h)) h) ∧
  (newK h v_55 T.zugzwangref20_Chain (fun (v_58 : Option Addr) (h : Heap) =>
  callK Tryz.prog .ptr F.law20_of #[(.bool true), (.agg v_48)] (fun (v_59 : Option Addr) (h : Heap) =>
  J_46 (v_59, v_58) h) h))))))))))))
def law20_ChainAdds.ann : Ann := (.seq .leaf (.seq (.seq .leaf (.cond (.seq .leaf .leaf) .leaf)) (.join [(5, .ptr), (6, .ptr)] (.any (.loc 2 (.st 0 386 (.st 4 352 (.alt 1 (.loc 7 (.last 3 (.loc 5 (.last 6 (.loc 8 .done))))) (.last 3 (.loc 5 (.alt 1 (.loc 7 (.last 6 (.loc 8 .done))) (.last 6 (.last 1 (.loc 7 (.loc 8 .done)))))))))))) (.seq (.seq .leaf (.block (.loop [(5, .ptr), (7, (.int .i64))] (.seq (.seq .leaf (.cond .leaf .leaf)) (.seq (.block (.seq .leaf (.seq .leaf (.seq .leaf (.seq (.seq (.any (.st 0 524284 (.st 1 524284 (.loc 2 (.loc 3 (.locA 4 (.loc 5 (.loc 6 (.loc 7 (.loc 8 (.loc 9 (.loc 10 (.loc 11 (.loc 12 (.loc 13 (.loc 14 (.loc 15 (.loc 16 (.loc 17 (.loc 18 .done)))))))))))))) (.loc 5 (.loc 6 (.loc 7 (.loc 8 (.locA 9 (.loc 10 (.loc 11 (.loc 12 (.loc 13 (.loc 14 (.loc 15 (.loc 16 (.loc 17 (.loc 18 .done))))))))) (.loc 10 (.loc 13 (.loc 14 (.st 11 462848 (.st 15 458752 (.last 12 (.last 16 (.loc 17 (.loc 18 .done)))))))))))))))))))) (.cond (.seq .leaf .leaf) .leaf)) (.seq (.seq .leaf (.cond (.seq .leaf (.seq .leaf (.seq .leaf (.seq .leaf .leaf)))) .leaf)) (.seq .leaf (.seq .leaf (.seq .leaf (.cond (.seq .leaf .leaf) .leaf)))))))))) .leaf))))) (.seq .leaf .leaf)))))
theorem law20_ChainAdds.eq (game0 : Array Value) (l1 : Sl) (R : Value → Heap → Prop) (h : Heap) : law20_ChainAdds.body game0 l1 R h = evFn Tryz.prog Tryz.f3 law20_ChainAdds.ann [(.agg game0), (.slice l1.a l1.n l1.c)] R h := by kernel_rfl
theorem law20_ChainAdds.calls {game0 : Array Value} {l1 : Sl} {R : Value → Heap → Prop} {h : Heap} (H : law20_ChainAdds.body game0 l1 R h) : HC Tryz.prog F.law20_ChainAdds #[(.agg game0), (.slice l1.a l1.n l1.c)] R h :=
  evFn_sound mixed Tryz.func3 (by kernel_rfl) (law20_ChainAdds.eq game0 l1 R h ▸ H)

end Go.Proofs.YtobdneijofchkaaGreat
