import Derived.Test.YtgiopagojidopaaSig
set_option linter.unusedVariables false
set_option maxRecDepth 100000
namespace Go.Proofs.Ytgiopagojidopaa
open Go.Ev
/-! zugzwang/msg.move$1 -/
def msg_move_1.body (s0 : Int) (R : Value → Heap → Prop) (h : Heap) : Prop :=
  if (decide (s0 ≥ 0)) = true then
  R (.bool (decide (s0 < 64))) h
  else
  R (.bool false) h
def msg_move_1.ann : Ann := (.seq .leaf (.seq .leaf .leaf))
theorem msg_move_1.eq (s0 : Int) (R : Value → Heap → Prop) (h : Heap) : msg_move_1.body s0 R h = evFn Try.prog Try.f48 msg_move_1.ann [(.int .i64 s0)] R h := by kernel_rfl
theorem msg_move_1.calls {s0 : Int} {R : Value → Heap → Prop} {h : Heap} (H : msg_move_1.body s0 R h) : HC Try.prog F.msg_move_1 #[(.int .i64 s0)] R h :=
  evFn_sound mixed Try.func48 (by kernel_rfl) (msg_move_1.eq s0 R h ▸ H)

/-! zugzwang/msg.move -/
def msg_move.body (m0 : Array Value) (R : Value → Heap → Prop) (h : Heap) : Prop :=
  newK h m0 T.api_Move (fun (m_1 : Option Addr) (h : Heap) =>
  fldK m_1 0 (fun (a_2 : Addr) =>
  loadK (.int .i64) h ((some a_2)) (fun (v_3 : Int) =>
  callV Try.prog .bool ((Value.func (.func F.msg_move_1) #[] #[])) #[(.int .i64 v_3)] (fun (v_4 : Bool) (h : Heap) =>
  if v_4 = true then
  fldK m_1 1 (fun (a_5 : Addr) =>
  loadK (.int .i64) h ((some a_5)) (fun (v_6 : Int) =>
  callV Try.prog .bool ((Value.func (.func F.msg_move_1) #[] #[])) #[(.int .i64 v_6)] (fun (v_7 : Bool) (h : Heap) =>
  if v_7 = true then
  fldK m_1 2 (fun (a_8 : Addr) =>
  loadK (.int .i64) h ((some a_8)) (fun (v_9 : Int) =>
  if (v_9 == 0) = true then
  R (.bool true) h
  else
  fldK m_1 2 (fun (a_10 : Addr) =>
  loadK (.int .i64) h ((some a_10)) (fun (v_11 : Int) =>
  if (decide (v_11 ≥ 2)) = true then
  fldK m_1 2 (fun (a_12 : Addr) =>
  loadK (.int .i64) h ((some a_12)) (fun (v_13 : Int) =>
  R (.bool (decide (v_13 ≤ 5))) h))
  else
  R (.bool false) h))))
  else
  R (.bool false) h) h))
  else
  R (.bool false) h) h)))
def msg_move.ann : Ann := (.seq .leaf (.seq .leaf (.seq .leaf .leaf)))
theorem msg_move.eq (m0 : Array Value) (R : Value → Heap → Prop) (h : Heap) : msg_move.body m0 R h = evFn Try.prog Try.f35 msg_move.ann [(.agg m0)] R h := by kernel_rfl
theorem msg_move.calls {m0 : Array Value} {R : Value → Heap → Prop} {h : Heap} (H : msg_move.body m0 R h) : HC Try.prog F.msg_move #[(.agg m0)] R h :=
  evFn_sound mixed Try.func35 (by kernel_rfl) (msg_move.eq m0 R h ▸ H)

/-! zugzwang/msg.named -/
def msg_named.body (b0 : Array Value) (R : Value → Heap → Prop) (h : Heap) : Prop :=
  newK h b0 T.api_Body (fun (b_1 : Option Addr) (h : Heap) =>
  newK h (zerosOf Try.prog T.api_Body) T.api_Body (fun (has_2 : Option Addr) (h : Heap) =>
  fldK b_1 0 (fun (a_3 : Addr) =>
  loadK (.int .i64) h ((some a_3)) (fun (v_4 : Int) =>
  fldK has_2 0 (fun (a_5 : Addr) =>
  storeK h ((some a_5)) (.int .i64 v_4) (fun (h : Heap) =>
  fldK b_1 0 (fun (a_6 : Addr) =>
  loadK (.int .i64) h ((some a_6)) (fun (v_7 : Int) =>
  if (v_7 == 1) = true then
  fldK b_1 1 (fun (a_8 : Addr) =>
  fldK b_1 4 (fun (a_9 : Addr) =>
  fldK b_1 1 (fun (a_10 : Addr) =>
  loadAggK (sizeOfT Try.prog T.api_Move) h ((some a_8)) (fun (v_11 : Array Value) =>
  fldK has_2 1 (fun (a_12 : Addr) =>
  loadK .bool h ((some a_9)) (fun (v_13 : Bool) =>
  loadAggK (sizeOfT Try.prog T.api_Move) h ((some a_10)) (fun (v_14 : Array Value) =>
  callK Try.prog .bool F.msg_move #[(.agg v_14)] (fun (v_15 : Bool) (h : Heap) =>
  stillK .bool h ((some a_9)) v_13 ∧
  stillAggK (sizeOfT Try.prog T.api_Move) h ((some a_8)) v_11 ∧
  storeAggK (sizeOfT Try.prog T.api_Move) h ((some a_12)) v_11 (fun (h : Heap) =>
  stillK .bool h ((some a_9)) v_13 ∧
  fldK has_2 4 (fun (a_16 : Addr) =>
  storeK h ((some a_16)) (.bool v_13) (fun (h : Heap) =>
  loadAggK (sizeOfT Try.prog T.api_Body) h has_2 (fun (v_17 : Array Value) =>
  storeAggK (sizeOfT Try.prog T.api_Body) h has_2 v_17 (fun (h : Heap) =>
  quietK Try.prog .agg (Instr.loadAt T.api_Body (.pointer has_2)) (fun (r_18 : Array Value) =>
  R (.tuple #[(.agg r_18), (.bool v_15)]) h) h)))))) h)))))))
  else
  if (v_7 == 2) = true then
  fldK b_1 5 (fun (a_19 : Addr) =>
  fldK b_1 5 (fun (a_20 : Addr) =>
  loadK (.int .i64) h ((some a_19)) (fun (v_21 : Int) =>
  fldK has_2 5 (fun (a_22 : Addr) =>
  loadK (.int .i64) h ((some a_20)) (fun (v_23 : Int) =>
  if (v_23 == 6) = true then
  storeK h ((some a_22)) (.int .i64 v_21) (fun (h : Heap) =>
  loadAggK (sizeOfT Try.prog T.api_Body) h has_2 (fun (v_24 : Array Value) =>
  storeAggK (sizeOfT Try.prog T.api_Body) h has_2 v_24 (fun (h : Heap) =>
  quietK Try.prog .agg (Instr.loadAt T.api_Body (.pointer has_2)) (fun (r_25 : Array Value) =>
  R (.tuple #[(.agg r_25), (.bool true)]) h) h)))
  else
  fldK b_1 5 (fun (a_26 : Addr) =>
  loadK (.int .i64) h ((some a_26)) (fun (v_27 : Int) =>
  storeK h ((some a_22)) (.int .i64 v_21) (fun (h : Heap) =>
  stillK (.int .i64) h ((some a_26)) v_27 ∧
  loadAggK (sizeOfT Try.prog T.api_Body) h has_2 (fun (v_28 : Array Value) =>
  storeAggK (sizeOfT Try.prog T.api_Body) h has_2 v_28 (fun (h : Heap) =>
  quietK Try.prog .agg (Instr.loadAt T.api_Body (.pointer has_2)) (fun (r_29 : Array Value) =>
  R (.tuple #[(.agg r_29), (.bool (v_27 == 7))]) h) h))))))))))
  else
  if (v_7 == 5) = true then
  fldK b_1 6 (fun (a_30 : Addr) =>
  loadAggK (sizeOfT Try.prog T.api_Tag) h ((some a_30)) (fun (v_31 : Array Value) =>
  fldK has_2 6 (fun (a_32 : Addr) =>
  storeAggK (sizeOfT Try.prog T.api_Tag) h ((some a_32)) v_31 (fun (h : Heap) =>
  loadAggK (sizeOfT Try.prog T.api_Body) h has_2 (fun (v_33 : Array Value) =>
  storeAggK (sizeOfT Try.prog T.api_Body) h has_2 v_33 (fun (h : Heap) =>
  quietK Try.prog .agg (Instr.loadAt T.api_Body (.pointer has_2)) (fun (r_34 : Array Value) =>
  R (.tuple #[(.agg r_34), (.bool true)]) h) h))))))
  else
  if (v_7 == 7) = true then
  fldK b_1 1 (fun (a_35 : Addr) =>
  fldK b_1 38 (fun (a_36 : Addr) =>
  fldK b_1 1 (fun (a_37 : Addr) =>
  loadAggK (sizeOfT Try.prog T.api_Move) h ((some a_35)) (fun (v_38 : Array Value) =>
  fldK has_2 1 (fun (a_39 : Addr) =>
  loadAggK (sizeOfT Try.prog T.api_Tag) h ((some a_36)) (fun (v_40 : Array Value) =>
  loadAggK (sizeOfT Try.prog T.api_Move) h ((some a_37)) (fun (v_41 : Array Value) =>
  callK Try.prog .bool F.msg_move #[(.agg v_41)] (fun (v_42 : Bool) (h : Heap) =>
  stillAggK (sizeOfT Try.prog T.api_Tag) h ((some a_36)) v_40 ∧
  stillAggK (sizeOfT Try.prog T.api_Move) h ((some a_35)) v_38 ∧
  storeAggK (sizeOfT Try.prog T.api_Move) h ((some a_39)) v_38 (fun (h : Heap) =>
  stillAggK (sizeOfT Try.prog T.api_Tag) h ((some a_36)) v_40 ∧
  fldK has_2 38 (fun (a_43 : Addr) =>
  storeAggK (sizeOfT Try.prog T.api_Tag) h ((some a_43)) v_40 (fun (h : Heap) =>
  loadAggK (sizeOfT Try.prog T.api_Body) h has_2 (fun (v_44 : Array Value) =>
  storeAggK (sizeOfT Try.prog T.api_Body) h has_2 v_44 (fun (h : Heap) =>
  quietK Try.prog .agg (Instr.loadAt T.api_Body (.pointer has_2)) (fun (r_45 : Array Value) =>
  R (.tuple #[(.agg r_45), (.bool v_42)]) h) h)))))) h)))))))
  else
  if (v_7 == 3) = true then
  if (v_7 == 3) = true then
  loadAggK (sizeOfT Try.prog T.api_Body) h has_2 (fun (v_46 : Array Value) =>
  storeAggK (sizeOfT Try.prog T.api_Body) h has_2 v_46 (fun (h : Heap) =>
  quietK Try.prog .agg (Instr.loadAt T.api_Body (.pointer has_2)) (fun (r_47 : Array Value) =>
  R (.tuple #[(.agg r_47), (.bool true)]) h) h))
  else
  loadAggK (sizeOfT Try.prog T.api_Body) h has_2 (fun (v_48 : Array Value) =>
  storeAggK (sizeOfT Try.prog T.api_Body) h has_2 v_48 (fun (h : Heap) =>
  quietK Try.prog .agg (Instr.loadAt T.api_Body (.pointer has_2)) (fun (r_49 : Array Value) =>
  R (.tuple #[(.agg r_49), (.bool false)]) h) h))
  else
  if (v_7 == 4) = true then
  if (v_7 == 4) = true then
  loadAggK (sizeOfT Try.prog T.api_Body) h has_2 (fun (v_50 : Array Value) =>
  storeAggK (sizeOfT Try.prog T.api_Body) h has_2 v_50 (fun (h : Heap) =>
  quietK Try.prog .agg (Instr.loadAt T.api_Body (.pointer has_2)) (fun (r_51 : Array Value) =>
  R (.tuple #[(.agg r_51), (.bool true)]) h) h))
  else
  loadAggK (sizeOfT Try.prog T.api_Body) h has_2 (fun (v_52 : Array Value) =>
  storeAggK (sizeOfT Try.prog T.api_Body) h has_2 v_52 (fun (h : Heap) =>
  quietK Try.prog .agg (Instr.loadAt T.api_Body (.pointer has_2)) (fun (r_53 : Array Value) =>
  R (.tuple #[(.agg r_53), (.bool false)]) h) h))
  else
  if (v_7 == 6) = true then
  loadAggK (sizeOfT Try.prog T.api_Body) h has_2 (fun (v_54 : Array Value) =>
  storeAggK (sizeOfT Try.prog T.api_Body) h has_2 v_54 (fun (h : Heap) =>
  quietK Try.prog .agg (Instr.loadAt T.api_Body (.pointer has_2)) (fun (r_55 : Array Value) =>
  R (.tuple #[(.agg r_55), (.bool true)]) h) h))
  else
  loadAggK (sizeOfT Try.prog T.api_Body) h has_2 (fun (v_56 : Array Value) =>
  storeAggK (sizeOfT Try.prog T.api_Body) h has_2 v_56 (fun (h : Heap) =>
  quietK Try.prog .agg (Instr.loadAt T.api_Body (.pointer has_2)) (fun (r_57 : Array Value) =>
  R (.tuple #[(.agg r_57), (.bool false)]) h) h))))))))))
def msg_named.ann : Ann := (.seq .leaf (.seq .leaf (.seq (.seq .leaf (.block (.seq .leaf (.cond (.any (.loc 0 (.loc 2 (.loc 4 (.st 1 3968 (.loc 7 (.st 3 3584 (.st 5 3904 (.last 6 (.last 8 (.loc 9 (.last 10 (.loc 11 .done))))))))))))) (.seq .leaf (.cond (.any (.loc 0 (.loc 2 (.st 1 7168 (.loc 10 (.st 3 7152 (.loc 4 (.loc 5 (.locA 6 (.loc 7 (.loc 8 (.loc 9 (.last 11 (.loc 12 .done))))) (.st 7 4864 (.loc 8 (.loc 9 (.last 11 (.loc 12 .done)))))))))))))) (.seq .leaf (.cond .leaf (.seq .leaf (.cond (.any (.loc 0 (.loc 2 (.loc 4 (.st 1 3968 (.loc 7 (.st 3 3584 (.st 5 3904 (.last 6 (.last 8 (.loc 9 (.last 10 (.loc 11 .done))))))))))))) (.seq (.seq .leaf (.cond .leaf (.seq .leaf (.cond .leaf .leaf)))) (.cond .leaf .leaf)))))))))))) (.seq .leaf .leaf))))
theorem msg_named.eq (b0 : Array Value) (R : Value → Heap → Prop) (h : Heap) : msg_named.body b0 R h = evFn Try.prog Try.f24 msg_named.ann [(.agg b0)] R h := by kernel_rfl
theorem msg_named.calls {b0 : Array Value} {R : Value → Heap → Prop} {h : Heap} (H : msg_named.body b0 R h) : HC Try.prog F.msg_named #[(.agg b0)] R h :=
  evFn_sound mixed Try.func24 (by kernel_rfl) (msg_named.eq b0 R h ▸ H)

/-! zugzwang/msg.Body -/
def msg_Body.body (b0 : Array Value) (R : Value → Heap → Prop) (h : Heap) : Prop :=
  newK h b0 T.api_Body (fun (b_1 : Option Addr) (h : Heap) =>
  loadAggK (sizeOfT Try.prog T.api_Body) h b_1 (fun (v_2 : Array Value) =>
  callK Try.prog (Kd.pair .agg .bool) F.msg_named #[(.agg v_2)] (fun (v_3 : Array Value × Bool) (h : Heap) =>
  newK h (zerosOf Try.prog T.api_Body) T.api_Body (fun (has_4 : Option Addr) (h : Heap) =>
  storeAggK (sizeOfT Try.prog T.api_Body) h has_4 v_3.1 (fun (h : Heap) =>
  if v_3.2 = true then
  loadAggK (sizeOfT Try.prog T.api_Body) h has_4 (fun (v_5 : Array Value) =>
  loadAggK (sizeOfT Try.prog T.api_Body) h b_1 (fun (v_6 : Array Value) =>
  eqK Try.prog (binSem .eql T.api_Body (.tmp 12) (.tmp 13) (.agg v_5) (.agg v_6)) (fun (v_7 : Bool) =>
  R (.bool v_7) h)))
  else
  R (.bool false) h))) h))
def msg_Body.ann : Ann := (.seq .leaf (.seq .leaf (.seq .leaf .leaf)))
theorem msg_Body.eq (b0 : Array Value) (R : Value → Heap → Prop) (h : Heap) : msg_Body.body b0 R h = evFn Try.prog Try.f12 msg_Body.ann [(.agg b0)] R h := by kernel_rfl
theorem msg_Body.calls {b0 : Array Value} {R : Value → Heap → Prop} {h : Heap} (H : msg_Body.body b0 R h) : HC Try.prog F.msg_Body #[(.agg b0)] R h :=
  evFn_sound mixed Try.func12 (by kernel_rfl) (msg_Body.eq b0 R h ▸ H)

/-! zugzwang/msg.Entry -/
def msg_Entry.body (e0 : Array Value) (R : Value → Heap → Prop) (h : Heap) : Prop :=
  newK h e0 T.api_Entry (fun (e_1 : Option Addr) (h : Heap) =>
  fldK e_1 32 (fun (a_2 : Addr) =>
  loadK (.int .i64) h ((some a_2)) (fun (v_3 : Int) =>
  if (decide (v_3 ≥ 0)) = true then
  fldK e_1 32 (fun (a_4 : Addr) =>
  loadK (.int .i64) h ((some a_4)) (fun (v_5 : Int) =>
  if (decide (v_5 ≤ 4294967295)) = true then
  fldK e_1 65 (fun (a_6 : Addr) =>
  loadAggK (sizeOfT Try.prog T.api_Body) h ((some a_6)) (fun (v_7 : Array Value) =>
  callK Try.prog .bool F.msg_Body #[(.agg v_7)] (fun (v_8 : Bool) (h : Heap) =>
  R (.bool v_8) h) h))
  else
  R (.bool false) h))
  else
  R (.bool false) h)))
def msg_Entry.ann : Ann := (.seq .leaf (.seq .leaf .leaf))
theorem msg_Entry.eq (e0 : Array Value) (R : Value → Heap → Prop) (h : Heap) : msg_Entry.body e0 R h = evFn Try.prog Try.f10 msg_Entry.ann [(.agg e0)] R h := by kernel_rfl
theorem msg_Entry.calls {e0 : Array Value} {R : Value → Heap → Prop} {h : Heap} (H : msg_Entry.body e0 R h) : HC Try.prog F.msg_Entry #[(.agg e0)] R h :=
  evFn_sound mixed Try.func10 (by kernel_rfl) (msg_Entry.eq e0 R h ▸ H)

/-! zugzwang/msg.bit -/
def msg_bit.body (n0 : Int) (R : Value → Heap → Prop) (h : Heap) : Prop :=
  if (n0 == 0) = true then
  R (.bool true) h
  else
  R (.bool (n0 == 1)) h
def msg_bit.ann : Ann := (.seq .leaf (.seq .leaf .leaf))
theorem msg_bit.eq (n0 : Int) (R : Value → Heap → Prop) (h : Heap) : msg_bit.body n0 R h = evFn Try.prog Try.f23 msg_bit.ann [(.int .i64 n0)] R h := by kernel_rfl
theorem msg_bit.calls {n0 : Int} {R : Value → Heap → Prop} {h : Heap} (H : msg_bit.body n0 R h) : HC Try.prog F.msg_bit #[(.int .i64 n0)] R h :=
  evFn_sound mixed Try.func23 (by kernel_rfl) (msg_bit.eq n0 R h ▸ H)

/-! zugzwang/msg.Right -/
def msg_Right.body (m0 : Array Value) (R : Value → Heap → Prop) (h : Heap) : Prop :=
  newK h m0 T.api_Msg (fun (m_1 : Option Addr) (h : Heap) =>
  fldK m_1 0 (fun (a_2 : Addr) =>
  loadK (.int .i64) h ((some a_2)) (fun (v_3 : Int) =>
  fldK m_1 1 (fun (a_4 : Addr) =>
  loadAggK (sizeOfT Try.prog T.api_Tag) h ((some a_4)) (fun (v_5 : Array Value) =>
  fldK m_1 33 (fun (a_6 : Addr) =>
  loadK (.int .i64) h ((some a_6)) (fun (v_7 : Int) =>
  buildK Try.prog (Instr.build T.api_Msg #[(0, (.int .i64 v_3)), (1, (.agg v_5)), (2, (.int .i64 v_7))]) (fun (v_8 : Array Value) =>
  newK h (zerosOf Try.prog T.api_Msg) T.api_Msg (fun (has_9 : Option Addr) (h : Heap) =>
  storeAggK (sizeOfT Try.prog T.api_Msg) h has_9 v_8 (fun (h : Heap) =>
  joinW (fun (s_10 : Bool) (h : Heap) =>
  if s_10 = true then
  fldK m_1 33 (fun (a_11 : Addr) =>
  loadK (.int .i64) h ((some a_11)) (fun (v_12 : Int) =>
  callK Try.prog .bool F.msg_bit #[(.int .i64 v_12)] (fun (v_13 : Bool) (h : Heap) =>
  if v_13 = true then
  loadAggK (sizeOfT Try.prog T.api_Msg) h has_9 (fun (v_14 : Array Value) =>
  loadAggK (sizeOfT Try.prog T.api_Msg) h m_1 (fun (v_15 : Array Value) =>
  eqK Try.prog (binSem .eql T.api_Msg (.tmp 56) (.tmp 57) (.agg v_14) (.agg v_15)) (fun (v_16 : Bool) =>
  R (.bool v_16) h)))
  else
  R (.bool false) h) h))
  else
  R (.bool false) h)
  (fun J_17 =>
  fldK m_1 0 (fun (a_18 : Addr) =>
  loadK (.int .i64) h ((some a_18)) (fun (v_19 : Int) =>
  if (v_19 == 1) = true then
  fldK m_1 34 (fun (a_20 : Addr) =>
  loadAggK (sizeOfT Try.prog T.api_Tag) h ((some a_20)) (fun (v_21 : Array Value) =>
  fldK has_9 34 (fun (a_22 : Addr) =>
  storeAggK (sizeOfT Try.prog T.api_Tag) h ((some a_22)) v_21 (fun (h : Heap) =>
  J_17 true h))))
  else
  if (v_19 == 2) = true then
  fldK m_1 66 (fun (a_23 : Addr) =>
  fldK m_1 67 (fun (a_24 : Addr) =>
  fldK m_1 66 (fun (a_25 : Addr) =>
  loadK (.int .i64) h ((some a_23)) (fun (v_26 : Int) =>
  fldK has_9 66 (fun (a_27 : Addr) =>
  loadAggK (sizeOfT Try.prog T.api_Tag) h ((some a_24)) (fun (v_28 : Array Value) =>
  loadK (.int .i64) h ((some a_25)) (fun (v_29 : Int) =>
  callK Try.prog .bool F.msg_bit #[(.int .i64 v_29)] (fun (v_30 : Bool) (h : Heap) =>
  stillAggK (sizeOfT Try.prog T.api_Tag) h ((some a_24)) v_28 ∧
  stillK (.int .i64) h ((some a_23)) v_26 ∧
  storeK h ((some a_27)) (.int .i64 v_26) (fun (h : Heap) =>
  stillAggK (sizeOfT Try.prog T.api_Tag) h ((some a_24)) v_28 ∧
  fldK has_9 67 (fun (a_31 : Addr) =>
  storeAggK (sizeOfT Try.prog T.api_Tag) h ((some a_31)) v_28 (fun (h : Heap) =>
  J_17 v_30 h)))) h)))))))
  else
  if (v_19 == 3) = true then
  fldK m_1 99 (fun (a_32 : Addr) =>
  fldK m_1 99 (fun (a_33 : Addr) =>
  fldK has_9 33 (fun (a_34 : Addr) =>
  loadAggK (sizeOfT Try.prog T.api_Entry) h ((some a_32)) (fun (v_35 : Array Value) =>
  loadAggK (sizeOfT Try.prog T.api_Entry) h ((some a_33)) (fun (v_36 : Array Value) =>
  callK Try.prog .bool F.msg_Entry #[(.agg v_36)] (fun (v_37 : Bool) (h : Heap) =>
  stillAggK (sizeOfT Try.prog T.api_Entry) h ((some a_32)) v_35 ∧
  if v_37 = true then
  fldK m_1 99 (fun (a_38 : Addr) =>
  fldK ((some a_38)) 0 (fun (a_39 : Addr) =>
  fldK m_1 1 (fun (a_40 : Addr) =>
  loadAggK (sizeOfT Try.prog T.api_Tag) h ((some a_39)) (fun (v_41 : Array Value) =>
  loadAggK (sizeOfT Try.prog T.api_Tag) h ((some a_40)) (fun (v_42 : Array Value) =>
  eqK Try.prog (binSem .eql T.api_Tag (.tmp 40) (.tmp 42) (.agg v_41) (.agg v_42)) (fun (v_43 : Bool) =>
  storeK h ((some a_34)) (.int .i64 0) (fun (h : Heap) =>
  stillAggK (sizeOfT Try.prog T.api_Tag) h ((some a_40)) v_42 ∧
  stillAggK (sizeOfT Try.prog T.api_Tag) h ((some a_39)) v_41 ∧
  stillAggK (sizeOfT Try.prog T.api_Entry) h ((some a_32)) v_35 ∧
  fldK has_9 99 (fun (a_44 : Addr) =>
  storeAggK (sizeOfT Try.prog T.api_Entry) h ((some a_44)) v_35 (fun (h : Heap) =>
  stillAggK (sizeOfT Try.prog T.api_Tag) h ((some a_40)) v_42 ∧
  stillAggK (sizeOfT Try.prog T.api_Tag) h ((some a_39)) v_41 ∧
  J_17 v_43 h)))))))))
  else
  storeK h ((some a_34)) (.int .i64 0) (fun (h : Heap) =>
  stillAggK (sizeOfT Try.prog T.api_Entry) h ((some a_32)) v_35 ∧
  fldK has_9 99 (fun (a_45 : Addr) =>
  storeAggK (sizeOfT Try.prog T.api_Entry) h ((some a_45)) v_35 (fun (h : Heap) =>
  J_17 false h)))) h)))))
  else
  if (v_19 == 4) = true then
  J_17 true h
  else
  R (.bool false) h)))))))))))))
def msg_Right.ann : Ann := (.seq .leaf (.seq .leaf (.seq .leaf (.join [(4, .bool)] (.seq .leaf (.block (.seq .leaf (.cond .leaf (.seq .leaf (.cond (.any (.loc 0 (.loc 2 (.loc 4 (.st 1 3968 (.loc 7 (.st 3 3584 (.st 5 3904 (.last 6 (.last 8 (.loc 9 (.last 10 (.loc 11 .done))))))))))))) (.seq .leaf (.cond (.any (.loc 0 (.loc 2 (.loc 13 (.st 1 229376 (.st 3 253936 (.last 4 (.loc 5 (.locA 6 (.loc 7 (.loc 9 (.st 8 137216 (.st 10 137216 (.loc 11 (.loc 12 (.last 14 (.loc 15 (.last 16 (.loc 17 .done)))))))))) (.loc 7 (.loc 8 (.loc 9 (.loc 10 (.loc 11 (.loc 12 (.last 14 (.loc 15 (.last 16 (.loc 17 .done))))))))))))))))))) (.seq .leaf (.cond .leaf (.seq .leaf .leaf))))))))))) (.seq .leaf .leaf)))))
theorem msg_Right.eq (m0 : Array Value) (R : Value → Heap → Prop) (h : Heap) : msg_Right.body m0 R h = evFn Try.prog Try.f8 msg_Right.ann [(.agg m0)] R h := by kernel_rfl
theorem msg_Right.calls {m0 : Array Value} {R : Value → Heap → Prop} {h : Heap} (H : msg_Right.body m0 R h) : HC Try.prog F.msg_Right #[(.agg m0)] R h :=
  evFn_sound mixed Try.func8 (by kernel_rfl) (msg_Right.eq m0 R h ▸ H)

/-! zugzwang/codec.New -/
def codec_New.body  (R : Value → Heap → Prop) (h : Heap) : Prop :=
  buildK Try.prog (Instr.build T.codec_state #[(0, (.bool true))]) (fun (v_1 : Array Value) =>
  buildK Try.prog (Instr.build T.codec_Writer #[(0, (.agg v_1))]) (fun (v_2 : Array Value) =>
  newK h v_2 T.codec_Writer (fun (v_3 : Option Addr) (h : Heap) =>
  R (.pointer v_3) h)))
def codec_New.ann : Ann := (.seq .leaf (.seq .leaf .leaf))
theorem codec_New.eq  (R : Value → Heap → Prop) (h : Heap) : codec_New.body  R h = evFn Try.prog Try.f16 codec_New.ann [] R h := by kernel_rfl
theorem codec_New.calls  {R : Value → Heap → Prop} {h : Heap} (H : codec_New.body  R h) : HC Try.prog F.codec_New #[] R h :=
  evFn_sound mixed Try.func16 (by kernel_rfl) (codec_New.eq  R h ▸ H)

/-! (*zugzwang/codec.state).sound -/
def codec_state_sound.body (s0 : Option Addr) (R : Value → Heap → Prop) (h : Heap) : Prop :=
  derefK s0 (fun (a_1 : Addr) =>
  fldK ((some a_1)) 1 (fun (a_2 : Addr) =>
  loadK (.int .i64) h ((some a_2)) (fun (v_3 : Int) =>
  R (.bool (v_3 == 0)) h)))
def codec_state_sound.ann : Ann := (.seq .leaf (.seq .leaf .leaf))
theorem codec_state_sound.eq (s0 : Option Addr) (R : Value → Heap → Prop) (h : Heap) : codec_state_sound.body s0 R h = evFn Try.prog Try.f29 codec_state_sound.ann [(.pointer s0)] R h := by kernel_rfl
theorem codec_state_sound.calls {s0 : Option Addr} {R : Value → Heap → Prop} {h : Heap} (H : codec_state_sound.body s0 R h) : HC Try.prog F.codec_state_sound #[(.pointer s0)] R h :=
  evFn_sound mixed Try.func29 (by kernel_rfl) (codec_state_sound.eq s0 R h ▸ H)

/-! (*zugzwang/codec.state).spoil -/
def codec_state_spoil.body (s0 : Option Addr) (e1 : Int) (R : Value → Heap → Prop) (h : Heap) : Prop :=
  joinW (fun (s_1 : Unit) (h : Heap) =>
  derefK s0 (fun (a_2 : Addr) =>
  fldK ((some a_2)) 1 (fun (a_3 : Addr) =>
  loadK (.int .i64) h ((some a_3)) (fun (v_4 : Int) =>
  R (.int .i64 v_4) h))))
  (fun J_5 =>
  derefK s0 (fun (a_6 : Addr) =>
  fldK ((some a_6)) 1 (fun (a_7 : Addr) =>
  loadK (.int .i64) h ((some a_7)) (fun (v_8 : Int) =>
  if (v_8 == 0) = true then
  derefK s0 (fun (a_9 : Addr) =>
  fldK ((some a_9)) 1 (fun (a_10 : Addr) =>
  storeK h ((some a_10)) (.int .i64 e1) (fun (h : Heap) =>
  J_5 () h)))
  else
  J_5 () h))))
def codec_state_spoil.ann : Ann := (.seq .leaf (.join [] (.seq .leaf (.cond .leaf .leaf)) (.seq .leaf .leaf)))
theorem codec_state_spoil.eq (s0 : Option Addr) (e1 : Int) (R : Value → Heap → Prop) (h : Heap) : codec_state_spoil.body s0 e1 R h = evFn Try.prog Try.f49 codec_state_spoil.ann [(.pointer s0), (.int .i64 e1)] R h := by kernel_rfl
theorem codec_state_spoil.calls {s0 : Option Addr} {e1 : Int} {R : Value → Heap → Prop} {h : Heap} (H : codec_state_spoil.body s0 e1 R h) : HC Try.prog F.codec_state_spoil #[(.pointer s0), (.int .i64 e1)] R h :=
  evFn_sound mixed Try.func49 (by kernel_rfl) (codec_state_spoil.eq s0 e1 R h ▸ H)

/-! zugzwang/codec.put[int] -/
def codec_put_int.body (w0 : Option Addr) (r1 : Array Value) (l2 : Sl) (R : Value → Heap → Prop) (h : Heap) : Prop :=
  newK h r1 T.codec_ruleaint (fun (r_1 : Option Addr) (h : Heap) =>
  if w0.isNone = true then
  R (.int .i64 1) h
  else
  derefK w0 (fun (a_2 : Addr) =>
  fldK ((some a_2)) 0 (fun (a_3 : Addr) =>
  fldK ((some a_3)) 0 (fun (a_4 : Addr) =>
  loadK .bool h ((some a_4)) (fun (v_5 : Bool) =>
  if (!v_5) = true then
  R (.int .i64 1) h
  else
  joinW (fun (s_6 : Unit) (h : Heap) =>
  derefK w0 (fun (a_7 : Addr) =>
  fldK ((some a_7)) 0 (fun (a_8 : Addr) =>
  fldK ((some a_8)) 1 (fun (a_9 : Addr) =>
  loadK (.int .i64) h ((some a_9)) (fun (v_10 : Int) =>
  R (.int .i64 v_10) h)))))
  (fun J_11 =>
  loopW (fun X_13 (s_12 : Int) (h : Heap) =>
  if (decide (s_12 < ((l2.n : Int)))) = true then
  idxK l2 s_12 (sizeOfT Try.prog T.int) (fun (a_14 : Addr) =>
  loadK (.int .i64) h ((some a_14)) (fun (v_15 : Int) =>
  derefK w0 (fun (a_16 : Addr) =>
  fldK ((some a_16)) 0 (fun (a_17 : Addr) =>
  callK Try.prog .bool F.codec_state_sound #[(.pointer ((some a_17)))] (fun (v_18 : Bool) (h : Heap) =>
  if (!v_18) = true then
  J_11 () h
  else
  joinW (fun (s_19 : Bool) (h : Heap) =>
  if s_19 = true then
  derefK w0 (fun (a_20 : Addr) =>
  fldK ((some a_20)) 0 (fun (a_21 : Addr) =>
  callK Try.prog (.int .i64) F.codec_state_spoil #[(.pointer ((some a_21))), (.int .i64 2)] (fun (v_22 : Int) (h : Heap) =>
  R (.int .i64 v_22) h) h))
  else
  fldK r_1 1 (fun (a_23 : Addr) =>
  loadK .any h ((some a_23)) (fun (v_24 : Value) =>
  callV Try.prog .slice v_24 #[(.int .i64 v_15)] (fun (v_25 : Sl) (h : Heap) =>
  derefK w0 (fun (a_26 : Addr) =>
  fldK ((some a_26)) 2 (fun (a_27 : Addr) =>
  loadK .slice h ((some a_27)) (fun (v_28 : Sl) =>
  if (decide ((IntKind.i64.wrap (((v_28.n : Int)) + ((v_25.n : Int)))) > 65536)) = true then
  derefK w0 (fun (a_29 : Addr) =>
  fldK ((some a_29)) 0 (fun (a_30 : Addr) =>
  callK Try.prog (.int .i64) F.codec_state_spoil #[(.pointer ((some a_30))), (.int .i64 3)] (fun (v_31 : Int) (h : Heap) =>
  R (.int .i64 v_31) h) h))
  else
  derefK w0 (fun (a_32 : Addr) =>
  fldK ((some a_32)) 2 (fun (a_33 : Addr) =>
  loadK .slice h ((some a_33)) (fun (v_34 : Sl) =>
  opK Try.prog .slice (Builtin.append_ #[T.sl_uint8, T.sl_uint8] T.sl_uint8 #[(.slice v_34.a v_34.n v_34.c), (.slice v_25.a v_25.n v_25.c)]) (fun (v_35 : Sl) (h : Heap) =>
  derefK w0 (fun (a_36 : Addr) =>
  fldK ((some a_36)) 2 (fun (a_37 : Addr) =>
  storeK h ((some a_37)) (.slice v_35.a v_35.n v_35.c) (fun (h : Heap) =>
  X_13 (IntKind.i64.wrap (s_12 + 1)) h)))) h))))))) h)))
  (fun J_38 =>
  fldK r_1 0 (fun (a_39 : Addr) =>
  loadK .any h ((some a_39)) (fun (v_40 : Value) =>
  eqK Try.prog (binSem .neq T.func62 (.tmp 32) (.const Value.nilFunc) v_40 Value.nilFunc) (fun (v_41 : Bool) =>
  if v_41 = true then
  fldK r_1 0 (fun (a_42 : Addr) =>
  loadK .any h ((some a_42)) (fun (v_43 : Value) =>
  callV Try.prog .bool v_43 #[(.int .i64 v_15)] (fun (v_44 : Bool) (h : Heap) =>
  J_38 (!v_44) h) h))
  else
  J_38 false h))))) h))))
  else
  J_11 () h) 0 h))))))
def codec_put_int.ann : Ann := (.seq .leaf (.seq (.seq .leaf (.cond (.seq .leaf .leaf) .leaf)) (.join [] (.seq .leaf (.block (.loop [(22, (.int .i64))] (.seq .leaf (.seq (.cond .leaf .leaf) (.seq (.block (.seq .leaf (.seq (.seq .leaf (.cond .leaf .leaf)) (.seq (.join [(40, .bool)] .leaf (.cond (.seq .leaf .leaf) .leaf)) (.seq .leaf (.seq (.seq .leaf (.cond (.seq .leaf .leaf) .leaf)) .leaf)))))) .leaf)))))) (.seq .leaf .leaf))))
theorem codec_put_int.eq (w0 : Option Addr) (r1 : Array Value) (l2 : Sl) (R : Value → Heap → Prop) (h : Heap) : codec_put_int.body w0 r1 l2 R h = evFn Try.prog Try.f36 codec_put_int.ann [(.pointer w0), (.agg r1), (.slice l2.a l2.n l2.c)] R h := by kernel_rfl
theorem codec_put_int.calls {w0 : Option Addr} {r1 : Array Value} {l2 : Sl} {R : Value → Heap → Prop} {h : Heap} (H : codec_put_int.body w0 r1 l2 R h) : HC Try.prog F.codec_put_int #[(.pointer w0), (.agg r1), (.slice l2.a l2.n l2.c)] R h :=
  evFn_sound mixed Try.func36 (by kernel_rfl) (codec_put_int.eq w0 r1 l2 R h ▸ H)

/-! zugzwang/codec.within$1 -/
def codec_within_1.body (n0 : Int) (x1 : Option Addr) (R : Value → Heap → Prop) (h : Heap) : Prop :=
  if (decide (n0 ≥ 0)) = true then
  loadK (.int .i64) h x1 (fun (v_1 : Int) =>
  R (.bool (decide (n0 ≤ v_1))) h)
  else
  R (.bool false) h
def codec_within_1.ann : Ann := (.seq .leaf (.seq .leaf .leaf))
theorem codec_within_1.eq (n0 : Int) (x1 : Option Addr) (R : Value → Heap → Prop) (h : Heap) : codec_within_1.body n0 x1 R h = evFn Try.prog Try.f50 codec_within_1.ann [(.int .i64 n0), (.pointer x1)] R h := by kernel_rfl
theorem codec_within_1.calls {n0 : Int} {x1 : Option Addr} {R : Value → Heap → Prop} {h : Heap} (H : codec_within_1.body n0 x1 R h) : HC Try.prog F.codec_within_1 #[(.int .i64 n0), (.pointer x1)] R h :=
  evFn_sound mixed Try.func50 (by kernel_rfl) (codec_within_1.eq n0 x1 R h ▸ H)

/-! zugzwang/codec.within -/
def codec_within.body (most0 : Int) (R : Value → Heap → Prop) (h : Heap) : Prop :=
  newK h #[(.int .i64 most0)] T.int (fun (most_1 : Option Addr) (h : Heap) =>
  R ((Value.func (.func F.codec_within_1) #[] #[(.pointer most_1)])) h)
def codec_within.ann : Ann := (.seq .leaf (.seq .leaf .leaf))
theorem codec_within.eq (most0 : Int) (R : Value → Heap → Prop) (h : Heap) : codec_within.body most0 R h = evFn Try.prog Try.f37 codec_within.ann [(.int .i64 most0)] R h := by kernel_rfl
theorem codec_within.calls {most0 : Int} {R : Value → Heap → Prop} {h : Heap} (H : codec_within.body most0 R h) : HC Try.prog F.codec_within #[(.int .i64 most0)] R h :=
  evFn_sound mixed Try.func37 (by kernel_rfl) (codec_within.eq most0 R h ▸ H)

/-! (*zugzwang/codec.Writer).Byte$1 -/
def codec_Writer_Byte_1.body (n0 : Int) (R : Value → Heap → Prop) (h : Heap) : Prop :=
  newSlK h 1 #[(.int .u8 (IntKind.u8.wrap n0))] T.uint8 (fun (v_1 : Sl) (h : Heap) =>
  R (.slice v_1.a v_1.n v_1.c) h)
def codec_Writer_Byte_1.ann : Ann := (.seq .leaf (.seq .leaf .leaf))
theorem codec_Writer_Byte_1.eq (n0 : Int) (R : Value → Heap → Prop) (h : Heap) : codec_Writer_Byte_1.body n0 R h = evFn Try.prog Try.f38 codec_Writer_Byte_1.ann [(.int .i64 n0)] R h := by kernel_rfl
theorem codec_Writer_Byte_1.calls {n0 : Int} {R : Value → Heap → Prop} {h : Heap} (H : codec_Writer_Byte_1.body n0 R h) : HC Try.prog F.codec_Writer_Byte_1 #[(.int .i64 n0)] R h :=
  evFn_sound mixed Try.func38 (by kernel_rfl) (codec_Writer_Byte_1.eq n0 R h ▸ H)

/-! (*zugzwang/codec.Writer).Byte -/
def codec_Writer_Byte.body (w0 : Option Addr) (l1 : Sl) (R : Value → Heap → Prop) (h : Heap) : Prop :=
  callK Try.prog .any F.codec_within #[(.int .i64 255)] (fun (v_1 : Value) (h : Heap) =>
  buildK Try.prog (Instr.build T.codec_ruleaint #[(0, v_1), (1, ((Value.func (.func F.codec_Writer_Byte_1) #[] #[])))]) (fun (v_2 : Array Value) =>
  callK Try.prog (.int .i64) F.codec_put_int #[(.pointer w0), (.agg v_2), (.slice l1.a l1.n l1.c)] (fun (v_3 : Int) (h : Heap) =>
  R (.int .i64 v_3) h) h)) h
def codec_Writer_Byte.ann : Ann := (.seq .leaf (.seq .leaf .leaf))
theorem codec_Writer_Byte.eq (w0 : Option Addr) (l1 : Sl) (R : Value → Heap → Prop) (h : Heap) : codec_Writer_Byte.body w0 l1 R h = evFn Try.prog Try.f27 codec_Writer_Byte.ann [(.pointer w0), (.slice l1.a l1.n l1.c)] R h := by kernel_rfl
theorem codec_Writer_Byte.calls {w0 : Option Addr} {l1 : Sl} {R : Value → Heap → Prop} {h : Heap} (H : codec_Writer_Byte.body w0 l1 R h) : HC Try.prog F.codec_Writer_Byte #[(.pointer w0), (.slice l1.a l1.n l1.c)] R h :=
  evFn_sound mixed Try.func27 (by kernel_rfl) (codec_Writer_Byte.eq w0 l1 R h ▸ H)

/-! zugzwang/codec.put[zugzwang/api.Tag] -/
def codec_put_api_Tag.body (w0 : Option Addr) (r1 : Array Value) (l2 : Sl) (R : Value → Heap → Prop) (h : Heap) : Prop :=
  newK h r1 T.codec_ruleaapi_Tag (fun (r_1 : Option Addr) (h : Heap) =>
  if w0.isNone = true then
  R (.int .i64 1) h
  else
  derefK w0 (fun (a_2 : Addr) =>
  fldK ((some a_2)) 0 (fun (a_3 : Addr) =>
  fldK ((some a_3)) 0 (fun (a_4 : Addr) =>
  loadK .bool h ((some a_4)) (fun (v_5 : Bool) =>
  if (!v_5) = true then
  R (.int .i64 1) h
  else
  joinW (fun (s_6 : Unit) (h : Heap) =>
  derefK w0 (fun (a_7 : Addr) =>
  fldK ((some a_7)) 0 (fun (a_8 : Addr) =>
  fldK ((some a_8)) 1 (fun (a_9 : Addr) =>
  loadK (.int .i64) h ((some a_9)) (fun (v_10 : Int) =>
  R (.int .i64 v_10) h)))))
  (fun J_11 =>
  loopW (fun X_13 (s_12 : Int) (h : Heap) =>
  if (decide (s_12 < ((l2.n : Int)))) = true then
  idxK l2 s_12 (sizeOfT Try.prog T.api_Tag) (fun (a_14 : Addr) =>
  loadAggK (sizeOfT Try.prog T.api_Tag) h ((some a_14)) (fun (v_15 : Array Value) =>
  newK h (zerosOf Try.prog T.api_Tag) T.api_Tag (fun (x_16 : Option Addr) (h : Heap) =>
  storeAggK (sizeOfT Try.prog T.api_Tag) h x_16 v_15 (fun (h : Heap) =>
  derefK w0 (fun (a_17 : Addr) =>
  fldK ((some a_17)) 0 (fun (a_18 : Addr) =>
  callK Try.prog .bool F.codec_state_sound #[(.pointer ((some a_18)))] (fun (v_19 : Bool) (h : Heap) =>
  if (!v_19) = true then
  J_11 () h
  else
  joinW (fun (s_20 : Bool) (h : Heap) =>
  if s_20 = true then
  derefK w0 (fun (a_21 : Addr) =>
  fldK ((some a_21)) 0 (fun (a_22 : Addr) =>
  callK Try.prog (.int .i64) F.codec_state_spoil #[(.pointer ((some a_22))), (.int .i64 2)] (fun (v_23 : Int) (h : Heap) =>
  R (.int .i64 v_23) h) h))
  else
  fldK r_1 1 (fun (a_24 : Addr) =>
  loadK .any h ((some a_24)) (fun (v_25 : Value) =>
  loadAggK (sizeOfT Try.prog T.api_Tag) h x_16 (fun (v_26 : Array Value) =>
  callV Try.prog .slice v_25 #[(.agg v_26)] (fun (v_27 : Sl) (h : Heap) =>
  derefK w0 (fun (a_28 : Addr) =>
  fldK ((some a_28)) 2 (fun (a_29 : Addr) =>
  loadK .slice h ((some a_29)) (fun (v_30 : Sl) =>
  if (decide ((IntKind.i64.wrap (((v_30.n : Int)) + ((v_27.n : Int)))) > 65536)) = true then
  derefK w0 (fun (a_31 : Addr) =>
  fldK ((some a_31)) 0 (fun (a_32 : Addr) =>
  callK Try.prog (.int .i64) F.codec_state_spoil #[(.pointer ((some a_32))), (.int .i64 3)] (fun (v_33 : Int) (h : Heap) =>
  R (.int .i64 v_33) h) h))
  else
  derefK w0 (fun (a_34 : Addr) =>
  fldK ((some a_34)) 2 (fun (a_35 : Addr) =>
  loadK .slice h ((some a_35)) (fun (v_36 : Sl) =>
  opK Try.prog .slice (Builtin.append_ #[T.sl_uint8, T.sl_uint8] T.sl_uint8 #[(.slice v_36.a v_36.n v_36.c), (.slice v_27.a v_27.n v_27.c)]) (fun (v_37 : Sl) (h : Heap) =>
  derefK w0 (fun (a_38 : Addr) =>
  fldK ((some a_38)) 2 (fun (a_39 : Addr) =>
  storeK h ((some a_39)) (.slice v_37.a v_37.n v_37.c) (fun (h : Heap) =>
  X_13 (IntKind.i64.wrap (s_12 + 1)) h)))) h))))))) h))))
  (fun J_40 =>
  fldK r_1 0 (fun (a_41 : Addr) =>
  loadK .any h ((some a_41)) (fun (v_42 : Value) =>
  eqK Try.prog (binSem .neq T.func86 (.tmp 32) (.const Value.nilFunc) v_42 Value.nilFunc) (fun (v_43 : Bool) =>
  if v_43 = true then
  fldK r_1 0 (fun (a_44 : Addr) =>
  loadK .any h ((some a_44)) (fun (v_45 : Value) =>
  loadAggK (sizeOfT Try.prog T.api_Tag) h x_16 (fun (v_46 : Array Value) =>
  callV Try.prog .bool v_45 #[(.agg v_46)] (fun (v_47 : Bool) (h : Heap) =>
  J_40 (!v_47) h) h)))
  else
  J_40 false h))))) h))))))
  else
  J_11 () h) 0 h))))))
def codec_put_api_Tag.ann : Ann := (.seq .leaf (.seq (.seq .leaf (.cond (.seq .leaf .leaf) .leaf)) (.join [] (.seq .leaf (.block (.loop [(22, (.int .i64))] (.seq .leaf (.seq (.cond .leaf .leaf) (.seq (.block (.seq .leaf (.seq (.seq .leaf (.cond .leaf .leaf)) (.seq (.join [(40, .bool)] .leaf (.cond (.seq .leaf .leaf) .leaf)) (.seq .leaf (.seq (.seq .leaf (.cond (.seq .leaf .leaf) .leaf)) .leaf)))))) .leaf)))))) (.seq .leaf .leaf))))
theorem codec_put_api_Tag.eq (w0 : Option Addr) (r1 : Array Value) (l2 : Sl) (R : Value → Heap → Prop) (h : Heap) : codec_put_api_Tag.body w0 r1 l2 R h = evFn Try.prog Try.f39 codec_put_api_Tag.ann [(.pointer w0), (.agg r1), (.slice l2.a l2.n l2.c)] R h := by kernel_rfl
theorem codec_put_api_Tag.calls {w0 : Option Addr} {r1 : Array Value} {l2 : Sl} {R : Value → Heap → Prop} {h : Heap} (H : codec_put_api_Tag.body w0 r1 l2 R h) : HC Try.prog F.codec_put_api_Tag #[(.pointer w0), (.agg r1), (.slice l2.a l2.n l2.c)] R h :=
  evFn_sound mixed Try.func39 (by kernel_rfl) (codec_put_api_Tag.eq w0 r1 l2 R h ▸ H)

/-! (*zugzwang/codec.Writer).Tag$1 -/
def codec_Writer_Tag_1.body (t0 : Array Value) (R : Value → Heap → Prop) (h : Heap) : Prop :=
  newK h t0 T.api_Tag (fun (t_1 : Option Addr) (h : Heap) =>
  sliceArrK t_1 32 none none none (sizeOfT Try.prog T.uint8) (fun (v_2 : Sl) =>
  R (.slice v_2.a v_2.n v_2.c) h))
def codec_Writer_Tag_1.ann : Ann := (.seq .leaf (.seq .leaf .leaf))
theorem codec_Writer_Tag_1.eq (t0 : Array Value) (R : Value → Heap → Prop) (h : Heap) : codec_Writer_Tag_1.body t0 R h = evFn Try.prog Try.f40 codec_Writer_Tag_1.ann [(.agg t0)] R h := by kernel_rfl
theorem codec_Writer_Tag_1.calls {t0 : Array Value} {R : Value → Heap → Prop} {h : Heap} (H : codec_Writer_Tag_1.body t0 R h) : HC Try.prog F.codec_Writer_Tag_1 #[(.agg t0)] R h :=
  evFn_sound mixed Try.func40 (by kernel_rfl) (codec_Writer_Tag_1.eq t0 R h ▸ H)

/-! (*zugzwang/codec.Writer).Tag -/
def codec_Writer_Tag.body (w0 : Option Addr) (l1 : Sl) (R : Value → Heap → Prop) (h : Heap) : Prop :=
  buildK Try.prog (Instr.build T.codec_ruleaapi_Tag #[(1, ((Value.func (.func F.codec_Writer_Tag_1) #[] #[])))]) (fun (v_1 : Array Value) =>
  callK Try.prog (.int .i64) F.codec_put_api_Tag #[(.pointer w0), (.agg v_1), (.slice l1.a l1.n l1.c)] (fun (v_2 : Int) (h : Heap) =>
  R (.int .i64 v_2) h) h)
def codec_Writer_Tag.ann : Ann := (.seq .leaf (.seq .leaf .leaf))
theorem codec_Writer_Tag.eq (w0 : Option Addr) (l1 : Sl) (R : Value → Heap → Prop) (h : Heap) : codec_Writer_Tag.body w0 l1 R h = evFn Try.prog Try.f28 codec_Writer_Tag.ann [(.pointer w0), (.slice l1.a l1.n l1.c)] R h := by kernel_rfl
theorem codec_Writer_Tag.calls {w0 : Option Addr} {l1 : Sl} {R : Value → Heap → Prop} {h : Heap} (H : codec_Writer_Tag.body w0 l1 R h) : HC Try.prog F.codec_Writer_Tag #[(.pointer w0), (.slice l1.a l1.n l1.c)] R h :=
  evFn_sound mixed Try.func28 (by kernel_rfl) (codec_Writer_Tag.eq w0 l1 R h ▸ H)

/-! (zugzwang/msg.scribe).move -/
def msg_scribe_move.body (s0 : Array Value) (m1 : Array Value) (R : Value → Heap → Prop) (h : Heap) : Prop :=
  newK h s0 T.msg_scribe (fun (s_1 : Option Addr) (h : Heap) =>
  newK h m1 T.api_Move (fun (m_2 : Option Addr) (h : Heap) =>
  fldK s_1 0 (fun (a_3 : Addr) =>
  loadK .ptr h ((some a_3)) (fun (v_4 : Option Addr) =>
  fldK m_2 0 (fun (a_5 : Addr) =>
  loadK (.int .i64) h ((some a_5)) (fun (v_6 : Int) =>
  fldK m_2 1 (fun (a_7 : Addr) =>
  loadK (.int .i64) h ((some a_7)) (fun (v_8 : Int) =>
  fldK m_2 2 (fun (a_9 : Addr) =>
  loadK (.int .i64) h ((some a_9)) (fun (v_10 : Int) =>
  newSlK h 3 #[(.int .i64 v_6), (.int .i64 v_8), (.int .i64 v_10)] T.int (fun (v_11 : Sl) (h : Heap) =>
  callK Try.prog (.int .i64) F.codec_Writer_Byte #[(.pointer v_4), (.slice v_11.a v_11.n v_11.c)] (fun (v_12 : Int) (h : Heap) =>
  R (.tuple #[]) h) h)))))))))))
def msg_scribe_move.ann : Ann := (.seq .leaf .leaf)
theorem msg_scribe_move.eq (s0 : Array Value) (m1 : Array Value) (R : Value → Heap → Prop) (h : Heap) : msg_scribe_move.body s0 m1 R h = evFn Try.prog Try.f51 msg_scribe_move.ann [(.agg s0), (.agg m1)] R h := by kernel_rfl
theorem msg_scribe_move.calls {s0 : Array Value} {m1 : Array Value} {R : Value → Heap → Prop} {h : Heap} (H : msg_scribe_move.body s0 m1 R h) : HC Try.prog F.msg_scribe_move #[(.agg s0), (.agg m1)] R h :=
  evFn_sound mixed Try.func51 (by kernel_rfl) (msg_scribe_move.eq s0 m1 R h ▸ H)

/-! (zugzwang/msg.scribe).moved -/
def msg_scribe_moved.body (s0 : Array Value) (b1 : Array Value) (R : Value → Heap → Prop) (h : Heap) : Prop :=
  newK h s0 T.msg_scribe (fun (s_1 : Option Addr) (h : Heap) =>
  newK h b1 T.api_Body (fun (b_2 : Option Addr) (h : Heap) =>
  loadAggK (sizeOfT Try.prog T.msg_scribe) h s_1 (fun (v_3 : Array Value) =>
  fldK b_2 1 (fun (a_4 : Addr) =>
  loadAggK (sizeOfT Try.prog T.api_Move) h ((some a_4)) (fun (v_5 : Array Value) =>
  callK Try.prog .unit F.msg_scribe_move #[(.agg v_3), (.agg v_5)] (fun (v_6 : Unit) (h : Heap) =>
  joinW (fun (s_7 : Int) (h : Heap) =>
  fldK s_1 0 (fun (a_8 : Addr) =>
  loadK .ptr h ((some a_8)) (fun (v_9 : Option Addr) =>
  newSlK h 1 #[(.int .i64 s_7)] T.int (fun (v_10 : Sl) (h : Heap) =>
  callK Try.prog (.int .i64) F.codec_Writer_Byte #[(.pointer v_9), (.slice v_10.a v_10.n v_10.c)] (fun (v_11 : Int) (h : Heap) =>
  R (.tuple #[]) h) h))))
  (fun J_12 =>
  fldK b_2 4 (fun (a_13 : Addr) =>
  loadK .bool h ((some a_13)) (fun (v_14 : Bool) =>
  if v_14 = true then
  J_12 1 h
  else
  J_12 0 h)))) h)))))
def msg_scribe_moved.ann : Ann := (.seq .leaf (.seq .leaf (.seq .leaf (.join [(4, (.int .i64))] (.seq .leaf (.cond .leaf .leaf)) .leaf))))
theorem msg_scribe_moved.eq (s0 : Array Value) (b1 : Array Value) (R : Value → Heap → Prop) (h : Heap) : msg_scribe_moved.body s0 b1 R h = evFn Try.prog Try.f42 msg_scribe_moved.ann [(.agg s0), (.agg b1)] R h := by kernel_rfl
theorem msg_scribe_moved.calls {s0 : Array Value} {b1 : Array Value} {R : Value → Heap → Prop} {h : Heap} (H : msg_scribe_moved.body s0 b1 R h) : HC Try.prog F.msg_scribe_moved #[(.agg s0), (.agg b1)] R h :=
  evFn_sound mixed Try.func42 (by kernel_rfl) (msg_scribe_moved.eq s0 b1 R h ▸ H)

/-! (zugzwang/msg.scribe).claimed -/
def msg_scribe_claimed.body (s0 : Array Value) (b1 : Array Value) (R : Value → Heap → Prop) (h : Heap) : Prop :=
  newK h s0 T.msg_scribe (fun (s_1 : Option Addr) (h : Heap) =>
  newK h b1 T.api_Body (fun (b_2 : Option Addr) (h : Heap) =>
  fldK s_1 0 (fun (a_3 : Addr) =>
  loadK .ptr h ((some a_3)) (fun (v_4 : Option Addr) =>
  fldK b_2 5 (fun (a_5 : Addr) =>
  loadK (.int .i64) h ((some a_5)) (fun (v_6 : Int) =>
  newSlK h 1 #[(.int .i64 v_6)] T.int (fun (v_7 : Sl) (h : Heap) =>
  callK Try.prog (.int .i64) F.codec_Writer_Byte #[(.pointer v_4), (.slice v_7.a v_7.n v_7.c)] (fun (v_8 : Int) (h : Heap) =>
  R (.tuple #[]) h) h)))))))
def msg_scribe_claimed.ann : Ann := (.seq .leaf .leaf)
theorem msg_scribe_claimed.eq (s0 : Array Value) (b1 : Array Value) (R : Value → Heap → Prop) (h : Heap) : msg_scribe_claimed.body s0 b1 R h = evFn Try.prog Try.f43 msg_scribe_claimed.ann [(.agg s0), (.agg b1)] R h := by kernel_rfl
theorem msg_scribe_claimed.calls {s0 : Array Value} {b1 : Array Value} {R : Value → Heap → Prop} {h : Heap} (H : msg_scribe_claimed.body s0 b1 R h) : HC Try.prog F.msg_scribe_claimed #[(.agg s0), (.agg b1)] R h :=
  evFn_sound mixed Try.func43 (by kernel_rfl) (msg_scribe_claimed.eq s0 b1 R h ▸ H)

/-! (zugzwang/msg.scribe).plain -/
def msg_scribe_plain.body (s0 : Array Value) (x1 : Array Value) (R : Value → Heap → Prop) (h : Heap) : Prop :=
  newK h s0 T.msg_scribe (fun (s_1 : Option Addr) (h : Heap) =>
  newK h x1 T.api_Body (fun (v_2 : Option Addr) (h : Heap) =>
  R (.tuple #[]) h))
def msg_scribe_plain.ann : Ann := .leaf
theorem msg_scribe_plain.eq (s0 : Array Value) (x1 : Array Value) (R : Value → Heap → Prop) (h : Heap) : msg_scribe_plain.body s0 x1 R h = evFn Try.prog Try.f44 msg_scribe_plain.ann [(.agg s0), (.agg x1)] R h := by kernel_rfl
theorem msg_scribe_plain.calls {s0 : Array Value} {x1 : Array Value} {R : Value → Heap → Prop} {h : Heap} (H : msg_scribe_plain.body s0 x1 R h) : HC Try.prog F.msg_scribe_plain #[(.agg s0), (.agg x1)] R h :=
  evFn_sound mixed Try.func44 (by kernel_rfl) (msg_scribe_plain.eq s0 x1 R h ▸ H)

/-! (zugzwang/msg.scribe).sealed -/
def msg_scribe_sealed.body (s0 : Array Value) (b1 : Array Value) (R : Value → Heap → Prop) (h : Heap) : Prop :=
  newK h s0 T.msg_scribe (fun (s_1 : Option Addr) (h : Heap) =>
  newK h b1 T.api_Body (fun (b_2 : Option Addr) (h : Heap) =>
  fldK s_1 0 (fun (a_3 : Addr) =>
  loadK .ptr h ((some a_3)) (fun (v_4 : Option Addr) =>
  fldK b_2 6 (fun (a_5 : Addr) =>
  loadAggK (sizeOfT Try.prog T.api_Tag) h ((some a_5)) (fun (v_6 : Array Value) =>
  opK Try.prog .slice (Instr.buildSlice T.sl_api_Tag 1 #[(0, (.agg v_6))]) (fun (v_7 : Sl) (h : Heap) =>
  callK Try.prog (.int .i64) F.codec_Writer_Tag #[(.pointer v_4), (.slice v_7.a v_7.n v_7.c)] (fun (v_8 : Int) (h : Heap) =>
  R (.tuple #[]) h) h) h))))))
def msg_scribe_sealed.ann : Ann := (.seq .leaf .leaf)
theorem msg_scribe_sealed.eq (s0 : Array Value) (b1 : Array Value) (R : Value → Heap → Prop) (h : Heap) : msg_scribe_sealed.body s0 b1 R h = evFn Try.prog Try.f45 msg_scribe_sealed.ann [(.agg s0), (.agg b1)] R h := by kernel_rfl
theorem msg_scribe_sealed.calls {s0 : Array Value} {b1 : Array Value} {R : Value → Heap → Prop} {h : Heap} (H : msg_scribe_sealed.body s0 b1 R h) : HC Try.prog F.msg_scribe_sealed #[(.agg s0), (.agg b1)] R h :=
  evFn_sound mixed Try.func45 (by kernel_rfl) (msg_scribe_sealed.eq s0 b1 R h ▸ H)

/-! (zugzwang/msg.scribe).opened -/
def msg_scribe_opened.body (s0 : Array Value) (b1 : Array Value) (R : Value → Heap → Prop) (h : Heap) : Prop :=
  newK h s0 T.msg_scribe (fun (s_1 : Option Addr) (h : Heap) =>
  newK h b1 T.api_Body (fun (b_2 : Option Addr) (h : Heap) =>
  loadAggK (sizeOfT Try.prog T.msg_scribe) h s_1 (fun (v_3 : Array Value) =>
  fldK b_2 1 (fun (a_4 : Addr) =>
  loadAggK (sizeOfT Try.prog T.api_Move) h ((some a_4)) (fun (v_5 : Array Value) =>
  callK Try.prog .unit F.msg_scribe_move #[(.agg v_3), (.agg v_5)] (fun (v_6 : Unit) (h : Heap) =>
  fldK s_1 0 (fun (a_7 : Addr) =>
  loadK .ptr h ((some a_7)) (fun (v_8 : Option Addr) =>
  fldK b_2 38 (fun (a_9 : Addr) =>
  loadAggK (sizeOfT Try.prog T.api_Tag) h ((some a_9)) (fun (v_10 : Array Value) =>
  opK Try.prog .slice (Instr.buildSlice T.sl_api_Tag 1 #[(0, (.agg v_10))]) (fun (v_11 : Sl) (h : Heap) =>
  callK Try.prog (.int .i64) F.codec_Writer_Tag #[(.pointer v_8), (.slice v_11.a v_11.n v_11.c)] (fun (v_12 : Int) (h : Heap) =>
  R (.tuple #[]) h) h) h))))) h)))))
def msg_scribe_opened.ann : Ann := (.seq .leaf (.seq .leaf .leaf))
theorem msg_scribe_opened.eq (s0 : Array Value) (b1 : Array Value) (R : Value → Heap → Prop) (h : Heap) : msg_scribe_opened.body s0 b1 R h = evFn Try.prog Try.f46 msg_scribe_opened.ann [(.agg s0), (.agg b1)] R h := by kernel_rfl
theorem msg_scribe_opened.calls {s0 : Array Value} {b1 : Array Value} {R : Value → Heap → Prop} {h : Heap} (H : msg_scribe_opened.body s0 b1 R h) : HC Try.prog F.msg_scribe_opened #[(.agg s0), (.agg b1)] R h :=
  evFn_sound mixed Try.func46 (by kernel_rfl) (msg_scribe_opened.eq s0 b1 R h ▸ H)

/-! zugzwang/msg.bodies -/
def msg_bodies.body  (R : Value → Heap → Prop) (h : Heap) : Prop :=
  opK Try.prog .map (Instr.makeMap T.map_aapi_Say_func_msg_scribe_api_Body none) (fun (v_1 : Option Nat) (h : Heap) =>
  unitK Try.prog (Instr.mapUpdate T.map_aapi_Say_func_msg_scribe_api_Body (.map v_1) (.int .i64 1) ((Value.func (.func F.msg_scribe_moved) #[] #[]))) (fun (h : Heap) =>
  unitK Try.prog (Instr.mapUpdate T.map_aapi_Say_func_msg_scribe_api_Body (.map v_1) (.int .i64 2) ((Value.func (.func F.msg_scribe_claimed) #[] #[]))) (fun (h : Heap) =>
  unitK Try.prog (Instr.mapUpdate T.map_aapi_Say_func_msg_scribe_api_Body (.map v_1) (.int .i64 3) ((Value.func (.func F.msg_scribe_plain) #[] #[]))) (fun (h : Heap) =>
  unitK Try.prog (Instr.mapUpdate T.map_aapi_Say_func_msg_scribe_api_Body (.map v_1) (.int .i64 4) ((Value.func (.func F.msg_scribe_plain) #[] #[]))) (fun (h : Heap) =>
  unitK Try.prog (Instr.mapUpdate T.map_aapi_Say_func_msg_scribe_api_Body (.map v_1) (.int .i64 5) ((Value.func (.func F.msg_scribe_sealed) #[] #[]))) (fun (h : Heap) =>
  unitK Try.prog (Instr.mapUpdate T.map_aapi_Say_func_msg_scribe_api_Body (.map v_1) (.int .i64 6) ((Value.func (.func F.msg_scribe_plain) #[] #[]))) (fun (h : Heap) =>
  unitK Try.prog (Instr.mapUpdate T.map_aapi_Say_func_msg_scribe_api_Body (.map v_1) (.int .i64 7) ((Value.func (.func F.msg_scribe_opened) #[] #[]))) (fun (h : Heap) =>
  R (.map v_1) h) h) h) h) h) h) h) h) h
def msg_bodies.ann : Ann := (.seq .leaf (.seq .leaf .leaf))
theorem msg_bodies.eq  (R : Value → Heap → Prop) (h : Heap) : msg_bodies.body  R h = evFn Try.prog Try.f33 msg_bodies.ann [] R h := by kernel_rfl
theorem msg_bodies.calls  {R : Value → Heap → Prop} {h : Heap} (H : msg_bodies.body  R h) : HC Try.prog F.msg_bodies #[] R h :=
  evFn_sound mixed Try.func33 (by kernel_rfl) (msg_bodies.eq  R h ▸ H)

/-! zugzwang/codec.bytes4 -/
def codec_bytes4.body (n0 : Int) (R : Value → Heap → Prop) (h : Heap) : Prop :=
  shiftK 24
  (shiftK 16
  (shiftK 8
  (newSlK h 4 #[(.int .u8 (IntKind.u8.wrap (Int.fdiv n0 (2 ^ min (Int.toNat 24) (IntKind.bits .i64))))), (.int .u8 (IntKind.u8.wrap (Int.fdiv n0 (2 ^ min (Int.toNat 16) (IntKind.bits .i64))))), (.int .u8 (IntKind.u8.wrap (Int.fdiv n0 (2 ^ min (Int.toNat 8) (IntKind.bits .i64))))), (.int .u8 (IntKind.u8.wrap n0))] T.uint8 (fun (v_1 : Sl) (h : Heap) =>
  R (.slice v_1.a v_1.n v_1.c) h))))
def codec_bytes4.ann : Ann := (.seq .leaf (.seq .leaf .leaf))
theorem codec_bytes4.eq (n0 : Int) (R : Value → Heap → Prop) (h : Heap) : codec_bytes4.body n0 R h = evFn Try.prog Try.f47 codec_bytes4.ann [(.int .i64 n0)] R h := by kernel_rfl
theorem codec_bytes4.calls {n0 : Int} {R : Value → Heap → Prop} {h : Heap} (H : codec_bytes4.body n0 R h) : HC Try.prog F.codec_bytes4 #[(.int .i64 n0)] R h :=
  evFn_sound mixed Try.func47 (by kernel_rfl) (codec_bytes4.eq n0 R h ▸ H)

/-! (*zugzwang/codec.Writer).Number -/
def codec_Writer_Number.body (w0 : Option Addr) (l1 : Sl) (R : Value → Heap → Prop) (h : Heap) : Prop :=
  callK Try.prog .any F.codec_within #[(.int .i64 4294967295)] (fun (v_1 : Value) (h : Heap) =>
  buildK Try.prog (Instr.build T.codec_ruleaint #[(0, v_1), (1, ((Value.func (.func F.codec_bytes4) #[] #[])))]) (fun (v_2 : Array Value) =>
  callK Try.prog (.int .i64) F.codec_put_int #[(.pointer w0), (.agg v_2), (.slice l1.a l1.n l1.c)] (fun (v_3 : Int) (h : Heap) =>
  R (.int .i64 v_3) h) h)) h
def codec_Writer_Number.ann : Ann := (.seq .leaf (.seq .leaf .leaf))
theorem codec_Writer_Number.eq (w0 : Option Addr) (l1 : Sl) (R : Value → Heap → Prop) (h : Heap) : codec_Writer_Number.body w0 l1 R h = evFn Try.prog Try.f34 codec_Writer_Number.ann [(.pointer w0), (.slice l1.a l1.n l1.c)] R h := by kernel_rfl
theorem codec_Writer_Number.calls {w0 : Option Addr} {l1 : Sl} {R : Value → Heap → Prop} {h : Heap} (H : codec_Writer_Number.body w0 l1 R h) : HC Try.prog F.codec_Writer_Number #[(.pointer w0), (.slice l1.a l1.n l1.c)] R h :=
  evFn_sound mixed Try.func34 (by kernel_rfl) (codec_Writer_Number.eq w0 l1 R h ▸ H)

/-! (zugzwang/msg.scribe).entries -/
def msg_scribe_entries.body (s0 : Array Value) (l1 : Sl) (R : Value → Heap → Prop) (h : Heap) : Prop :=
  newK h s0 T.msg_scribe (fun (s_1 : Option Addr) (h : Heap) =>
  callK Try.prog .map F.msg_bodies #[] (fun (v_2 : Option Nat) (h : Heap) =>
  loopW (fun X_4 (s_3 : Int) (h : Heap) =>
  if (decide (s_3 < ((l1.n : Int)))) = true then
  idxK l1 s_3 (sizeOfT Try.prog T.api_Entry) (fun (a_5 : Addr) =>
  loadAggK (sizeOfT Try.prog T.api_Entry) h ((some a_5)) (fun (v_6 : Array Value) =>
  newK h (zerosOf Try.prog T.api_Entry) T.api_Entry (fun (e_7 : Option Addr) (h : Heap) =>
  storeAggK (sizeOfT Try.prog T.api_Entry) h e_7 v_6 (fun (h : Heap) =>
  fldK s_1 0 (fun (a_8 : Addr) =>
  loadK .ptr h ((some a_8)) (fun (v_9 : Option Addr) =>
  fldK e_7 0 (fun (a_10 : Addr) =>
  loadAggK (sizeOfT Try.prog T.api_Tag) h ((some a_10)) (fun (v_11 : Array Value) =>
  opK Try.prog .slice (Instr.buildSlice T.sl_api_Tag 1 #[(0, (.agg v_11))]) (fun (v_12 : Sl) (h : Heap) =>
  callK Try.prog (.int .i64) F.codec_Writer_Tag #[(.pointer v_9), (.slice v_12.a v_12.n v_12.c)] (fun (v_13 : Int) (h : Heap) =>
  fldK s_1 0 (fun (a_14 : Addr) =>
  loadK .ptr h ((some a_14)) (fun (v_15 : Option Addr) =>
  fldK e_7 32 (fun (a_16 : Addr) =>
  loadK (.int .i64) h ((some a_16)) (fun (v_17 : Int) =>
  newSlK h 1 #[(.int .i64 v_17)] T.int (fun (v_18 : Sl) (h : Heap) =>
  callK Try.prog (.int .i64) F.codec_Writer_Number #[(.pointer v_15), (.slice v_18.a v_18.n v_18.c)] (fun (v_19 : Int) (h : Heap) =>
  fldK s_1 0 (fun (a_20 : Addr) =>
  loadK .ptr h ((some a_20)) (fun (v_21 : Option Addr) =>
  fldK e_7 33 (fun (a_22 : Addr) =>
  loadAggK (sizeOfT Try.prog T.api_Tag) h ((some a_22)) (fun (v_23 : Array Value) =>
  opK Try.prog .slice (Instr.buildSlice T.sl_api_Tag 1 #[(0, (.agg v_23))]) (fun (v_24 : Sl) (h : Heap) =>
  callK Try.prog (.int .i64) F.codec_Writer_Tag #[(.pointer v_21), (.slice v_24.a v_24.n v_24.c)] (fun (v_25 : Int) (h : Heap) =>
  fldK s_1 0 (fun (a_26 : Addr) =>
  loadK .ptr h ((some a_26)) (fun (v_27 : Option Addr) =>
  fldK e_7 65 (fun (a_28 : Addr) =>
  fldK ((some a_28)) 0 (fun (a_29 : Addr) =>
  loadK (.int .i64) h ((some a_29)) (fun (v_30 : Int) =>
  newSlK h 1 #[(.int .i64 v_30)] T.int (fun (v_31 : Sl) (h : Heap) =>
  callK Try.prog (.int .i64) F.codec_Writer_Byte #[(.pointer v_27), (.slice v_31.a v_31.n v_31.c)] (fun (v_32 : Int) (h : Heap) =>
  fldK e_7 65 (fun (a_33 : Addr) =>
  fldK ((some a_33)) 0 (fun (a_34 : Addr) =>
  loadK (.int .i64) h ((some a_34)) (fun (v_35 : Int) =>
  quietK Try.prog .any (Instr.lookup T.map_aapi_Say_func_msg_scribe_api_Body (.map v_2) (.int .i64 v_35) false) (fun (v_36 : Value) =>
  loadAggK (sizeOfT Try.prog T.msg_scribe) h s_1 (fun (v_37 : Array Value) =>
  fldK e_7 65 (fun (a_38 : Addr) =>
  loadAggK (sizeOfT Try.prog T.api_Body) h ((some a_38)) (fun (v_39 : Array Value) =>
  callV Try.prog .unit v_36 #[(.agg v_37), (.agg v_39)] (fun (v_40 : Unit) (h : Heap) =>
  X_4 (IntKind.i64.wrap (s_3 + 1)) h) h)))) h)))) h))))))) h) h))))) h)))))) h) h))))))))
  else
  R (.tuple #[]) h) 0 h) h)
def msg_scribe_entries.ann : Ann := (.seq .leaf (.seq .leaf (.seq .leaf (.block (.loop [(10, (.int .i64))] (.seq .leaf (.seq (.cond .leaf .leaf) (.seq (.block (.seq .leaf (.seq .leaf (.seq .leaf (.seq .leaf (.seq .leaf .leaf)))))) .leaf))))))))
theorem msg_scribe_entries.eq (s0 : Array Value) (l1 : Sl) (R : Value → Heap → Prop) (h : Heap) : msg_scribe_entries.body s0 l1 R h = evFn Try.prog Try.f22 msg_scribe_entries.ann [(.agg s0), (.slice l1.a l1.n l1.c)] R h := by kernel_rfl
theorem msg_scribe_entries.calls {s0 : Array Value} {l1 : Sl} {R : Value → Heap → Prop} {h : Heap} (H : msg_scribe_entries.body s0 l1 R h) : HC Try.prog F.msg_scribe_entries #[(.agg s0), (.slice l1.a l1.n l1.c)] R h :=
  evFn_sound mixed Try.func22 (by kernel_rfl) (msg_scribe_entries.eq s0 l1 R h ▸ H)

/-! (zugzwang/msg.scribe).message -/
def msg_scribe_message.body (s0 : Array Value) (m1 : Array Value) (R : Value → Heap → Prop) (h : Heap) : Prop :=
  newK h s0 T.msg_scribe (fun (s_1 : Option Addr) (h : Heap) =>
  newK h m1 T.api_Msg (fun (m_2 : Option Addr) (h : Heap) =>
  fldK s_1 0 (fun (a_3 : Addr) =>
  loadK .ptr h ((some a_3)) (fun (v_4 : Option Addr) =>
  fldK m_2 0 (fun (a_5 : Addr) =>
  loadK (.int .i64) h ((some a_5)) (fun (v_6 : Int) =>
  newSlK h 1 #[(.int .i64 v_6)] T.int (fun (v_7 : Sl) (h : Heap) =>
  callK Try.prog (.int .i64) F.codec_Writer_Byte #[(.pointer v_4), (.slice v_7.a v_7.n v_7.c)] (fun (v_8 : Int) (h : Heap) =>
  fldK m_2 0 (fun (a_9 : Addr) =>
  loadK (.int .i64) h ((some a_9)) (fun (v_10 : Int) =>
  if (v_10 == 3) = true then
  loadAggK (sizeOfT Try.prog T.msg_scribe) h s_1 (fun (v_11 : Array Value) =>
  fldK m_2 99 (fun (a_12 : Addr) =>
  loadAggK (sizeOfT Try.prog T.api_Entry) h ((some a_12)) (fun (v_13 : Array Value) =>
  opK Try.prog .slice (Instr.buildSlice T.sl_api_Entry 1 #[(0, (.agg v_13))]) (fun (v_14 : Sl) (h : Heap) =>
  callK Try.prog .unit F.msg_scribe_entries #[(.agg v_11), (.slice v_14.a v_14.n v_14.c)] (fun (v_15 : Unit) (h : Heap) =>
  R (.tuple #[]) h) h) h)))
  else
  fldK s_1 0 (fun (a_16 : Addr) =>
  loadK .ptr h ((some a_16)) (fun (v_17 : Option Addr) =>
  fldK m_2 1 (fun (a_18 : Addr) =>
  loadAggK (sizeOfT Try.prog T.api_Tag) h ((some a_18)) (fun (v_19 : Array Value) =>
  opK Try.prog .slice (Instr.buildSlice T.sl_api_Tag 1 #[(0, (.agg v_19))]) (fun (v_20 : Sl) (h : Heap) =>
  callK Try.prog (.int .i64) F.codec_Writer_Tag #[(.pointer v_17), (.slice v_20.a v_20.n v_20.c)] (fun (v_21 : Int) (h : Heap) =>
  fldK s_1 0 (fun (a_22 : Addr) =>
  loadK .ptr h ((some a_22)) (fun (v_23 : Option Addr) =>
  fldK m_2 33 (fun (a_24 : Addr) =>
  loadK (.int .i64) h ((some a_24)) (fun (v_25 : Int) =>
  newSlK h 1 #[(.int .i64 v_25)] T.int (fun (v_26 : Sl) (h : Heap) =>
  callK Try.prog (.int .i64) F.codec_Writer_Byte #[(.pointer v_23), (.slice v_26.a v_26.n v_26.c)] (fun (v_27 : Int) (h : Heap) =>
  fldK m_2 0 (fun (a_28 : Addr) =>
  loadK (.int .i64) h ((some a_28)) (fun (v_29 : Int) =>
  if (v_29 == 1) = true then
  fldK s_1 0 (fun (a_30 : Addr) =>
  loadK .ptr h ((some a_30)) (fun (v_31 : Option Addr) =>
  fldK m_2 34 (fun (a_32 : Addr) =>
  loadAggK (sizeOfT Try.prog T.api_Tag) h ((some a_32)) (fun (v_33 : Array Value) =>
  opK Try.prog .slice (Instr.buildSlice T.sl_api_Tag 1 #[(0, (.agg v_33))]) (fun (v_34 : Sl) (h : Heap) =>
  callK Try.prog (.int .i64) F.codec_Writer_Tag #[(.pointer v_31), (.slice v_34.a v_34.n v_34.c)] (fun (v_35 : Int) (h : Heap) =>
  R (.tuple #[]) h) h) h))))
  else
  if (v_29 == 2) = true then
  fldK s_1 0 (fun (a_36 : Addr) =>
  loadK .ptr h ((some a_36)) (fun (v_37 : Option Addr) =>
  fldK m_2 66 (fun (a_38 : Addr) =>
  loadK (.int .i64) h ((some a_38)) (fun (v_39 : Int) =>
  newSlK h 1 #[(.int .i64 v_39)] T.int (fun (v_40 : Sl) (h : Heap) =>
  callK Try.prog (.int .i64) F.codec_Writer_Byte #[(.pointer v_37), (.slice v_40.a v_40.n v_40.c)] (fun (v_41 : Int) (h : Heap) =>
  fldK s_1 0 (fun (a_42 : Addr) =>
  loadK .ptr h ((some a_42)) (fun (v_43 : Option Addr) =>
  fldK m_2 67 (fun (a_44 : Addr) =>
  loadAggK (sizeOfT Try.prog T.api_Tag) h ((some a_44)) (fun (v_45 : Array Value) =>
  opK Try.prog .slice (Instr.buildSlice T.sl_api_Tag 1 #[(0, (.agg v_45))]) (fun (v_46 : Sl) (h : Heap) =>
  callK Try.prog (.int .i64) F.codec_Writer_Tag #[(.pointer v_43), (.slice v_46.a v_46.n v_46.c)] (fun (v_47 : Int) (h : Heap) =>
  R (.tuple #[]) h) h) h))))) h)))))
  else
  R (.tuple #[]) h))) h)))))) h) h))))))) h)))))))
def msg_scribe_message.ann : Ann := (.seq .leaf (.seq .leaf (.seq (.seq .leaf (.cond (.seq .leaf .leaf) .leaf)) (.seq .leaf (.seq .leaf (.seq .leaf (.block (.seq .leaf (.cond .leaf (.seq .leaf (.cond (.seq .leaf .leaf) .leaf)))))))))))
theorem msg_scribe_message.eq (s0 : Array Value) (m1 : Array Value) (R : Value → Heap → Prop) (h : Heap) : msg_scribe_message.body s0 m1 R h = evFn Try.prog Try.f17 msg_scribe_message.ann [(.agg s0), (.agg m1)] R h := by kernel_rfl
theorem msg_scribe_message.calls {s0 : Array Value} {m1 : Array Value} {R : Value → Heap → Prop} {h : Heap} (H : msg_scribe_message.body s0 m1 R h) : HC Try.prog F.msg_scribe_message #[(.agg s0), (.agg m1)] R h :=
  evFn_sound mixed Try.func17 (by kernel_rfl) (msg_scribe_message.eq s0 m1 R h ▸ H)

/-! slices.Clone[[]byte,byte] -/
def slices_Clone_byte_byte.body (s0 : Sl) (R : Value → Heap → Prop) (h : Heap) : Prop :=
  if s0.a.isNone = true then
  R (.slice none 0 0) h
  else
  newSlK h 0 #[] T.uint8 (fun (v_1 : Sl) (h : Heap) =>
  opK Try.prog .slice (Builtin.append_ #[T.sl_uint8, T.sl_uint8] T.sl_uint8 #[(.slice v_1.a v_1.n v_1.c), (.slice s0.a s0.n s0.c)]) (fun (v_2 : Sl) (h : Heap) =>
  R (.slice v_2.a v_2.n v_2.c) h) h)
def slices_Clone_byte_byte.ann : Ann := (.seq .leaf (.seq (.seq .leaf (.cond (.seq .leaf .leaf) .leaf)) (.seq .leaf .leaf)))
theorem slices_Clone_byte_byte.eq (s0 : Sl) (R : Value → Heap → Prop) (h : Heap) : slices_Clone_byte_byte.body s0 R h = evFn Try.prog Try.f30 slices_Clone_byte_byte.ann [(.slice s0.a s0.n s0.c)] R h := by kernel_rfl
theorem slices_Clone_byte_byte.calls {s0 : Sl} {R : Value → Heap → Prop} {h : Heap} (H : slices_Clone_byte_byte.body s0 R h) : HC Try.prog F.slices_Clone_byte_byte #[(.slice s0.a s0.n s0.c)] R h :=
  evFn_sound mixed Try.func30 (by kernel_rfl) (slices_Clone_byte_byte.eq s0 R h ▸ H)

/-! (*zugzwang/codec.Writer).Out -/
def codec_Writer_Out.body (w0 : Option Addr) (R : Value → Heap → Prop) (h : Heap) : Prop :=
  joinW (fun (s_1 : Bool) (h : Heap) =>
  if s_1 = true then
  R (.tuple #[(.slice none 0 0), (.int .i64 1)]) h
  else
  derefK w0 (fun (a_2 : Addr) =>
  fldK ((some a_2)) 0 (fun (a_3 : Addr) =>
  callK Try.prog .bool F.codec_state_sound #[(.pointer ((some a_3)))] (fun (v_4 : Bool) (h : Heap) =>
  if (!v_4) = true then
  derefK w0 (fun (a_5 : Addr) =>
  fldK ((some a_5)) 0 (fun (a_6 : Addr) =>
  fldK ((some a_6)) 1 (fun (a_7 : Addr) =>
  loadK (.int .i64) h ((some a_7)) (fun (v_8 : Int) =>
  R (.tuple #[(.slice none 0 0), (.int .i64 v_8)]) h))))
  else
  derefK w0 (fun (a_9 : Addr) =>
  fldK ((some a_9)) 2 (fun (a_10 : Addr) =>
  loadK .slice h ((some a_10)) (fun (v_11 : Sl) =>
  callK Try.prog .slice F.slices_Clone_byte_byte #[(.slice v_11.a v_11.n v_11.c)] (fun (v_12 : Sl) (h : Heap) =>
  R (.tuple #[(.slice v_12.a v_12.n v_12.c), (.int .i64 0)]) h) h)))) h)))
  (fun J_13 =>
  if w0.isNone = true then
  J_13 true h
  else
  derefK w0 (fun (a_14 : Addr) =>
  fldK ((some a_14)) 0 (fun (a_15 : Addr) =>
  fldK ((some a_15)) 0 (fun (a_16 : Addr) =>
  loadK .bool h ((some a_16)) (fun (v_17 : Bool) =>
  J_13 (!v_17) h)))))
def codec_Writer_Out.ann : Ann := (.seq .leaf (.seq (.block (.join [(4, .bool)] .leaf (.cond (.seq .leaf .leaf) (.seq .leaf (.cond (.seq .leaf .leaf) .leaf))))) (.seq .leaf .leaf)))
theorem codec_Writer_Out.eq (w0 : Option Addr) (R : Value → Heap → Prop) (h : Heap) : codec_Writer_Out.body w0 R h = evFn Try.prog Try.f18 codec_Writer_Out.ann [(.pointer w0)] R h := by kernel_rfl
theorem codec_Writer_Out.calls {w0 : Option Addr} {R : Value → Heap → Prop} {h : Heap} (H : codec_Writer_Out.body w0 R h) : HC Try.prog F.codec_Writer_Out #[(.pointer w0)] R h :=
  evFn_sound mixed Try.func18 (by kernel_rfl) (codec_Writer_Out.eq w0 R h ▸ H)

/-! zugzwang/msg.Put -/
def msg_Put.body (m0 : Array Value) (R : Value → Heap → Prop) (h : Heap) : Prop :=
  newK h m0 T.api_Msg (fun (m_1 : Option Addr) (h : Heap) =>
  loadAggK (sizeOfT Try.prog T.api_Msg) h m_1 (fun (v_2 : Array Value) =>
  callK Try.prog .bool F.msg_Right #[(.agg v_2)] (fun (v_3 : Bool) (h : Heap) =>
  if (!v_3) = true then
  R (.tuple #[(.slice none 0 0), (.int .i64 2)]) h
  else
  callK Try.prog .ptr F.codec_New #[] (fun (v_4 : Option Addr) (h : Heap) =>
  buildK Try.prog (Instr.build T.msg_scribe #[(0, (.pointer v_4))]) (fun (v_5 : Array Value) =>
  newK h (zerosOf Try.prog T.msg_scribe) T.msg_scribe (fun (s_6 : Option Addr) (h : Heap) =>
  storeAggK (sizeOfT Try.prog T.msg_scribe) h s_6 v_5 (fun (h : Heap) =>
  loadAggK (sizeOfT Try.prog T.msg_scribe) h s_6 (fun (v_7 : Array Value) =>
  loadAggK (sizeOfT Try.prog T.api_Msg) h m_1 (fun (v_8 : Array Value) =>
  callK Try.prog .unit F.msg_scribe_message #[(.agg v_7), (.agg v_8)] (fun (v_9 : Unit) (h : Heap) =>
  fldK s_6 0 (fun (a_10 : Addr) =>
  loadK .ptr h ((some a_10)) (fun (v_11 : Option Addr) =>
  callK Try.prog (Kd.pair .slice (.int .i64)) F.codec_Writer_Out #[(.pointer v_11)] (fun (v_12 : Sl × Int) (h : Heap) =>
  R (.tuple #[(.slice v_12.1.a v_12.1.n v_12.1.c), (.int .i64 v_12.2)]) h) h))) h)))))) h) h))
def msg_Put.ann : Ann := (.seq .leaf (.seq (.seq .leaf (.cond (.seq .leaf .leaf) .leaf)) (.seq .leaf (.seq .leaf (.seq .leaf .leaf)))))
theorem msg_Put.eq (m0 : Array Value) (R : Value → Heap → Prop) (h : Heap) : msg_Put.body m0 R h = evFn Try.prog Try.f4 msg_Put.ann [(.agg m0)] R h := by kernel_rfl
theorem msg_Put.calls {m0 : Array Value} {R : Value → Heap → Prop} {h : Heap} (H : msg_Put.body m0 R h) : HC Try.prog F.msg_Put #[(.agg m0)] R h :=
  evFn_sound mixed Try.func4 (by kernel_rfl) (msg_Put.eq m0 R h ▸ H)

/-! zugzwang/zugzwangref18.move -/
def ref18_move.body (m0 : Array Value) (R : Value → Heap → Prop) (h : Heap) : Prop :=
  newK h m0 T.api_Move (fun (m_1 : Option Addr) (h : Heap) =>
  fldK m_1 0 (fun (a_2 : Addr) =>
  loadK (.int .i64) h ((some a_2)) (fun (v_3 : Int) =>
  if (decide (v_3 ≥ 0)) = true then
  fldK m_1 0 (fun (a_4 : Addr) =>
  loadK (.int .i64) h ((some a_4)) (fun (v_5 : Int) =>
  if (decide (v_5 < 64)) = true then
  fldK m_1 1 (fun (a_6 : Addr) =>
  loadK (.int .i64) h ((some a_6)) (fun (v_7 : Int) =>
  if (decide (v_7 ≥ 0)) = true then
  fldK m_1 1 (fun (a_8 : Addr) =>
  loadK (.int .i64) h ((some a_8)) (fun (v_9 : Int) =>
  if (decide (v_9 < 64)) = true then
  fldK m_1 2 (fun (a_10 : Addr) =>
  loadK (.int .i64) h ((some a_10)) (fun (v_11 : Int) =>
  if (v_11 == 0) = true then
  R (.bool true) h
  else
  fldK m_1 2 (fun (a_12 : Addr) =>
  loadK (.int .i64) h ((some a_12)) (fun (v_13 : Int) =>
  if (decide (v_13 ≥ 2)) = true then
  fldK m_1 2 (fun (a_14 : Addr) =>
  loadK (.int .i64) h ((some a_14)) (fun (v_15 : Int) =>
  R (.bool (decide (v_15 ≤ 5))) h))
  else
  R (.bool false) h))))
  else
  R (.bool false) h))
  else
  R (.bool false) h))
  else
  R (.bool false) h))
  else
  R (.bool false) h)))
def ref18_move.ann : Ann := (.seq .leaf (.seq .leaf .leaf))
theorem ref18_move.eq (m0 : Array Value) (R : Value → Heap → Prop) (h : Heap) : ref18_move.body m0 R h = evFn Try.prog Try.f25 ref18_move.ann [(.agg m0)] R h := by kernel_rfl
theorem ref18_move.calls {m0 : Array Value} {R : Value → Heap → Prop} {h : Heap} (H : ref18_move.body m0 R h) : HC Try.prog F.ref18_move #[(.agg m0)] R h :=
  evFn_sound mixed Try.func25 (by kernel_rfl) (ref18_move.eq m0 R h ▸ H)

/-! zugzwang/zugzwangref18.Body -/
def ref18_Body.body (b0 : Array Value) (R : Value → Heap → Prop) (h : Heap) : Prop :=
  newK h b0 T.api_Body (fun (b_1 : Option Addr) (h : Heap) =>
  fldK b_1 0 (fun (a_2 : Addr) =>
  loadK (.int .i64) h ((some a_2)) (fun (v_3 : Int) =>
  buildK Try.prog (Instr.build T.api_Body #[(0, (.int .i64 v_3))]) (fun (v_4 : Array Value) =>
  newK h (zerosOf Try.prog T.api_Body) T.api_Body (fun (has_5 : Option Addr) (h : Heap) =>
  storeAggK (sizeOfT Try.prog T.api_Body) h has_5 v_4 (fun (h : Heap) =>
  joinW (fun (s_6 : Unit) (h : Heap) =>
  loadAggK (sizeOfT Try.prog T.api_Body) h has_5 (fun (v_7 : Array Value) =>
  loadAggK (sizeOfT Try.prog T.api_Body) h b_1 (fun (v_8 : Array Value) =>
  eqK Try.prog (binSem .eql T.api_Body (.tmp 47) (.tmp 48) (.agg v_7) (.agg v_8)) (fun (v_9 : Bool) =>
  if v_9 = true then
  fldK b_1 0 (fun (a_10 : Addr) =>
  loadK (.int .i64) h ((some a_10)) (fun (v_11 : Int) =>
  if (v_11 != 1) = true then
  fldK b_1 0 (fun (a_12 : Addr) =>
  loadK (.int .i64) h ((some a_12)) (fun (v_13 : Int) =>
  if (v_13 != 7) = true then
  R (.bool true) h
  else
  fldK b_1 1 (fun (a_14 : Addr) =>
  loadAggK (sizeOfT Try.prog T.api_Move) h ((some a_14)) (fun (v_15 : Array Value) =>
  callK Try.prog .bool F.ref18_move #[(.agg v_15)] (fun (v_16 : Bool) (h : Heap) =>
  R (.bool v_16) h) h))))
  else
  fldK b_1 1 (fun (a_17 : Addr) =>
  loadAggK (sizeOfT Try.prog T.api_Move) h ((some a_17)) (fun (v_18 : Array Value) =>
  callK Try.prog .bool F.ref18_move #[(.agg v_18)] (fun (v_19 : Bool) (h : Heap) =>
  R (.bool v_19) h) h))))
  else
  R (.bool false) h))))
  (fun J_20 =>
  fldK b_1 0 (fun (a_21 : Addr) =>
  loadK (.int .i64) h ((some a_21)) (fun (v_22 : Int) =>
  if (v_22 == 1) = true then
  fldK b_1 1 (fun (a_23 : Addr) =>
  loadAggK (sizeOfT Try.prog T.api_Move) h ((some a_23)) (fun (v_24 : Array Value) =>
  fldK has_5 1 (fun (a_25 : Addr) =>
  storeAggK (sizeOfT Try.prog T.api_Move) h ((some a_25)) v_24 (fun (h : Heap) =>
  fldK b_1 4 (fun (a_26 : Addr) =>
  loadK .bool h ((some a_26)) (fun (v_27 : Bool) =>
  fldK has_5 4 (fun (a_28 : Addr) =>
  storeK h ((some a_28)) (.bool v_27) (fun (h : Heap) =>
  J_20 () h))))))))
  else
  if (v_22 == 2) = true then
  fldK b_1 5 (fun (a_29 : Addr) =>
  loadK (.int .i64) h ((some a_29)) (fun (v_30 : Int) =>
  fldK has_5 5 (fun (a_31 : Addr) =>
  storeK h ((some a_31)) (.int .i64 v_30) (fun (h : Heap) =>
  fldK b_1 5 (fun (a_32 : Addr) =>
  loadK (.int .i64) h ((some a_32)) (fun (v_33 : Int) =>
  if (v_33 != 6) = true then
  fldK b_1 5 (fun (a_34 : Addr) =>
  loadK (.int .i64) h ((some a_34)) (fun (v_35 : Int) =>
  if (v_35 != 7) = true then
  R (.bool false) h
  else
  J_20 () h))
  else
  J_20 () h))))))
  else
  joinW (fun (s_36 : Bool) (h : Heap) =>
  if s_36 = true then
  J_20 () h
  else
  if (v_22 == 5) = true then
  fldK b_1 6 (fun (a_37 : Addr) =>
  loadAggK (sizeOfT Try.prog T.api_Tag) h ((some a_37)) (fun (v_38 : Array Value) =>
  fldK has_5 6 (fun (a_39 : Addr) =>
  storeAggK (sizeOfT Try.prog T.api_Tag) h ((some a_39)) v_38 (fun (h : Heap) =>
  J_20 () h))))
  else
  if (v_22 == 7) = true then
  fldK b_1 1 (fun (a_40 : Addr) =>
  loadAggK (sizeOfT Try.prog T.api_Move) h ((some a_40)) (fun (v_41 : Array Value) =>
  fldK has_5 1 (fun (a_42 : Addr) =>
  storeAggK (sizeOfT Try.prog T.api_Move) h ((some a_42)) v_41 (fun (h : Heap) =>
  fldK b_1 38 (fun (a_43 : Addr) =>
  loadAggK (sizeOfT Try.prog T.api_Tag) h ((some a_43)) (fun (v_44 : Array Value) =>
  fldK has_5 38 (fun (a_45 : Addr) =>
  storeAggK (sizeOfT Try.prog T.api_Tag) h ((some a_45)) v_44 (fun (h : Heap) =>
  J_20 () h))))))))
  else
  R (.bool false) h)
  (fun J_46 =>
  if (v_22 == 3) = true then
  J_46 (v_22 == 3) h
  else
  if (v_22 == 4) = true then
  J_46 (v_22 == 4) h
  else
  J_46 (v_22 == 6) h))))))))))
def ref18_Body.ann : Ann := (.seq .leaf (.seq .leaf (.join [] (.seq .leaf (.block (.seq .leaf (.cond (.seq .leaf .leaf) (.seq .leaf (.cond (.seq .leaf (.seq .leaf (.cond (.seq .leaf .leaf) .leaf))) (.join [(30, .bool)] (.seq .leaf (.cond .leaf (.seq .leaf (.cond .leaf .leaf)))) (.cond .leaf (.seq .leaf (.cond .leaf (.seq .leaf (.cond (.seq .leaf .leaf) (.seq .leaf .leaf))))))))))))) (.seq .leaf .leaf))))
theorem ref18_Body.eq (b0 : Array Value) (R : Value → Heap → Prop) (h : Heap) : ref18_Body.body b0 R h = evFn Try.prog Try.f13 ref18_Body.ann [(.agg b0)] R h := by kernel_rfl
theorem ref18_Body.calls {b0 : Array Value} {R : Value → Heap → Prop} {h : Heap} (H : ref18_Body.body b0 R h) : HC Try.prog F.ref18_Body #[(.agg b0)] R h :=
  evFn_sound mixed Try.func13 (by kernel_rfl) (ref18_Body.eq b0 R h ▸ H)

/-! zugzwang/zugzwangref18.Entry -/
def ref18_Entry.body (e0 : Array Value) (R : Value → Heap → Prop) (h : Heap) : Prop :=
  newK h e0 T.api_Entry (fun (e_1 : Option Addr) (h : Heap) =>
  fldK e_1 32 (fun (a_2 : Addr) =>
  loadK (.int .i64) h ((some a_2)) (fun (v_3 : Int) =>
  if (decide (v_3 ≥ 0)) = true then
  fldK e_1 32 (fun (a_4 : Addr) =>
  loadK (.int .i64) h ((some a_4)) (fun (v_5 : Int) =>
  if (decide (v_5 ≤ 4294967295)) = true then
  fldK e_1 65 (fun (a_6 : Addr) =>
  loadAggK (sizeOfT Try.prog T.api_Body) h ((some a_6)) (fun (v_7 : Array Value) =>
  callK Try.prog .bool F.ref18_Body #[(.agg v_7)] (fun (v_8 : Bool) (h : Heap) =>
  R (.bool v_8) h) h))
  else
  R (.bool false) h))
  else
  R (.bool false) h)))
def ref18_Entry.ann : Ann := (.seq .leaf (.seq .leaf .leaf))
theorem ref18_Entry.eq (e0 : Array Value) (R : Value → Heap → Prop) (h : Heap) : ref18_Entry.body e0 R h = evFn Try.prog Try.f11 ref18_Entry.ann [(.agg e0)] R h := by kernel_rfl
theorem ref18_Entry.calls {e0 : Array Value} {R : Value → Heap → Prop} {h : Heap} (H : ref18_Entry.body e0 R h) : HC Try.prog F.ref18_Entry #[(.agg e0)] R h :=
  evFn_sound mixed Try.func11 (by kernel_rfl) (ref18_Entry.eq e0 R h ▸ H)

/-! zugzwang/zugzwangref18.Right -/
def ref18_Right.body (m0 : Array Value) (R : Value → Heap → Prop) (h : Heap) : Prop :=
  newK h m0 T.api_Msg (fun (m_1 : Option Addr) (h : Heap) =>
  fldK m_1 0 (fun (a_2 : Addr) =>
  loadK (.int .i64) h ((some a_2)) (fun (v_3 : Int) =>
  fldK m_1 1 (fun (a_4 : Addr) =>
  loadAggK (sizeOfT Try.prog T.api_Tag) h ((some a_4)) (fun (v_5 : Array Value) =>
  buildK Try.prog (Instr.build T.api_Msg #[(0, (.int .i64 v_3)), (1, (.agg v_5))]) (fun (v_6 : Array Value) =>
  newK h (zerosOf Try.prog T.api_Msg) T.api_Msg (fun (has_7 : Option Addr) (h : Heap) =>
  storeAggK (sizeOfT Try.prog T.api_Msg) h has_7 v_6 (fun (h : Heap) =>
  joinW (fun (s_8 : Bool) (h : Heap) =>
  if s_8 = true then
  loadAggK (sizeOfT Try.prog T.api_Msg) h has_7 (fun (v_9 : Array Value) =>
  loadAggK (sizeOfT Try.prog T.api_Msg) h m_1 (fun (v_10 : Array Value) =>
  eqK Try.prog (binSem .eql T.api_Msg (.tmp 62) (.tmp 63) (.agg v_9) (.agg v_10)) (fun (v_11 : Bool) =>
  if v_11 = true then
  fldK m_1 33 (fun (a_12 : Addr) =>
  loadK (.int .i64) h ((some a_12)) (fun (v_13 : Int) =>
  if (v_13 == 0) = true then
  R (.bool true) h
  else
  fldK m_1 33 (fun (a_14 : Addr) =>
  loadK (.int .i64) h ((some a_14)) (fun (v_15 : Int) =>
  R (.bool (v_15 == 1)) h))))
  else
  R (.bool false) h)))
  else
  R (.bool false) h)
  (fun J_16 =>
  fldK m_1 0 (fun (a_17 : Addr) =>
  loadK (.int .i64) h ((some a_17)) (fun (v_18 : Int) =>
  if (v_18 == 1) = true then
  fldK m_1 33 (fun (a_19 : Addr) =>
  loadK (.int .i64) h ((some a_19)) (fun (v_20 : Int) =>
  fldK has_7 33 (fun (a_21 : Addr) =>
  storeK h ((some a_21)) (.int .i64 v_20) (fun (h : Heap) =>
  fldK m_1 34 (fun (a_22 : Addr) =>
  loadAggK (sizeOfT Try.prog T.api_Tag) h ((some a_22)) (fun (v_23 : Array Value) =>
  fldK has_7 34 (fun (a_24 : Addr) =>
  storeAggK (sizeOfT Try.prog T.api_Tag) h ((some a_24)) v_23 (fun (h : Heap) =>
  J_16 true h))))))))
  else
  if (v_18 == 2) = true then
  fldK m_1 33 (fun (a_25 : Addr) =>
  loadK (.int .i64) h ((some a_25)) (fun (v_26 : Int) =>
  fldK has_7 33 (fun (a_27 : Addr) =>
  storeK h ((some a_27)) (.int .i64 v_26) (fun (h : Heap) =>
  fldK m_1 66 (fun (a_28 : Addr) =>
  loadK (.int .i64) h ((some a_28)) (fun (v_29 : Int) =>
  fldK has_7 66 (fun (a_30 : Addr) =>
  storeK h ((some a_30)) (.int .i64 v_29) (fun (h : Heap) =>
  fldK m_1 67 (fun (a_31 : Addr) =>
  loadAggK (sizeOfT Try.prog T.api_Tag) h ((some a_31)) (fun (v_32 : Array Value) =>
  fldK has_7 67 (fun (a_33 : Addr) =>
  storeAggK (sizeOfT Try.prog T.api_Tag) h ((some a_33)) v_32 (fun (h : Heap) =>
  fldK m_1 66 (fun (a_34 : Addr) =>
  loadK (.int .i64) h ((some a_34)) (fun (v_35 : Int) =>
  if (v_35 == 0) = true then
  J_16 true h
  else
  fldK m_1 66 (fun (a_36 : Addr) =>
  loadK (.int .i64) h ((some a_36)) (fun (v_37 : Int) =>
  J_16 (v_37 == 1) h))))))))))))))))
  else
  if (v_18 == 3) = true then
  fldK m_1 99 (fun (a_38 : Addr) =>
  loadAggK (sizeOfT Try.prog T.api_Entry) h ((some a_38)) (fun (v_39 : Array Value) =>
  fldK has_7 99 (fun (a_40 : Addr) =>
  storeAggK (sizeOfT Try.prog T.api_Entry) h ((some a_40)) v_39 (fun (h : Heap) =>
  fldK m_1 99 (fun (a_41 : Addr) =>
  loadAggK (sizeOfT Try.prog T.api_Entry) h ((some a_41)) (fun (v_42 : Array Value) =>
  callK Try.prog .bool F.ref18_Entry #[(.agg v_42)] (fun (v_43 : Bool) (h : Heap) =>
  if v_43 = true then
  fldK m_1 99 (fun (a_44 : Addr) =>
  fldK ((some a_44)) 0 (fun (a_45 : Addr) =>
  loadAggK (sizeOfT Try.prog T.api_Tag) h ((some a_45)) (fun (v_46 : Array Value) =>
  fldK m_1 1 (fun (a_47 : Addr) =>
  loadAggK (sizeOfT Try.prog T.api_Tag) h ((some a_47)) (fun (v_48 : Array Value) =>
  eqK Try.prog (binSem .eql T.api_Tag (.tmp 50) (.tmp 52) (.agg v_46) (.agg v_48)) (fun (v_49 : Bool) =>
  J_16 v_49 h))))))
  else
  J_16 false h) h))))))
  else
  if (v_18 == 4) = true then
  fldK m_1 33 (fun (a_50 : Addr) =>
  loadK (.int .i64) h ((some a_50)) (fun (v_51 : Int) =>
  fldK has_7 33 (fun (a_52 : Addr) =>
  storeK h ((some a_52)) (.int .i64 v_51) (fun (h : Heap) =>
  J_16 true h))))
  else
  R (.bool false) h)))))))))))
def ref18_Right.ann : Ann := (.seq .leaf (.seq .leaf (.seq .leaf (.join [(4, .bool)] (.seq .leaf (.block (.seq .leaf (.cond (.seq .leaf .leaf) (.seq .leaf (.cond (.seq .leaf (.seq .leaf (.seq .leaf .leaf))) (.seq .leaf (.cond (.seq .leaf .leaf) (.seq .leaf (.cond .leaf (.seq .leaf .leaf))))))))))) (.seq .leaf .leaf)))))
theorem ref18_Right.eq (m0 : Array Value) (R : Value → Heap → Prop) (h : Heap) : ref18_Right.body m0 R h = evFn Try.prog Try.f9 ref18_Right.ann [(.agg m0)] R h := by kernel_rfl
theorem ref18_Right.calls {m0 : Array Value} {R : Value → Heap → Prop} {h : Heap} (H : ref18_Right.body m0 R h) : HC Try.prog F.ref18_Right #[(.agg m0)] R h :=
  evFn_sound mixed Try.func9 (by kernel_rfl) (ref18_Right.eq m0 R h ▸ H)

/-! (*zugzwang/zugzwangref17.Writer).put -/
def ref17_Writer_put.body (w0 : Option Addr) (b1 : Sl) (R : Value → Heap → Prop) (h : Heap) : Prop :=
  joinW (fun (s_1 : Unit) (h : Heap) =>
  derefK w0 (fun (a_2 : Addr) =>
  fldK ((some a_2)) 1 (fun (a_3 : Addr) =>
  loadK (.int .i64) h ((some a_3)) (fun (v_4 : Int) =>
  if (v_4 == 0) = true then
  derefK w0 (fun (a_5 : Addr) =>
  fldK ((some a_5)) 0 (fun (a_6 : Addr) =>
  loadK .slice h ((some a_6)) (fun (v_7 : Sl) =>
  opK Try.prog .slice (Builtin.append_ #[T.sl_uint8, T.sl_uint8] T.sl_uint8 #[(.slice v_7.a v_7.n v_7.c), (.slice b1.a b1.n b1.c)]) (fun (v_8 : Sl) (h : Heap) =>
  derefK w0 (fun (a_9 : Addr) =>
  fldK ((some a_9)) 0 (fun (a_10 : Addr) =>
  storeK h ((some a_10)) (.slice v_8.a v_8.n v_8.c) (fun (h : Heap) =>
  R (.tuple #[]) h)))) h)))
  else
  R (.tuple #[]) h))))
  (fun J_11 =>
  joinW (fun (s_12 : Bool) (h : Heap) =>
  if s_12 = true then
  derefK w0 (fun (a_13 : Addr) =>
  fldK ((some a_13)) 1 (fun (a_14 : Addr) =>
  storeK h ((some a_14)) (.int .i64 3) (fun (h : Heap) =>
  J_11 () h)))
  else
  J_11 () h)
  (fun J_15 =>
  derefK w0 (fun (a_16 : Addr) =>
  fldK ((some a_16)) 1 (fun (a_17 : Addr) =>
  loadK (.int .i64) h ((some a_17)) (fun (v_18 : Int) =>
  if (v_18 == 0) = true then
  derefK w0 (fun (a_19 : Addr) =>
  fldK ((some a_19)) 0 (fun (a_20 : Addr) =>
  loadK .slice h ((some a_20)) (fun (v_21 : Sl) =>
  J_15 (decide ((IntKind.i64.wrap (((v_21.n : Int)) + ((b1.n : Int)))) > 65536)) h)))
  else
  J_15 false h)))))
def ref17_Writer_put.ann : Ann := (.join [] (.join [(19, .bool)] .leaf (.cond .leaf .leaf)) (.seq .leaf (.cond .leaf .leaf)))
theorem ref17_Writer_put.eq (w0 : Option Addr) (b1 : Sl) (R : Value → Heap → Prop) (h : Heap) : ref17_Writer_put.body w0 b1 R h = evFn Try.prog Try.f31 ref17_Writer_put.ann [(.pointer w0), (.slice b1.a b1.n b1.c)] R h := by kernel_rfl
theorem ref17_Writer_put.calls {w0 : Option Addr} {b1 : Sl} {R : Value → Heap → Prop} {h : Heap} (H : ref17_Writer_put.body w0 b1 R h) : HC Try.prog F.ref17_Writer_put #[(.pointer w0), (.slice b1.a b1.n b1.c)] R h :=
  evFn_sound mixed Try.func31 (by kernel_rfl) (ref17_Writer_put.eq w0 b1 R h ▸ H)

/-! (*zugzwang/zugzwangref17.Writer).Byte -/
def ref17_Writer_Byte.body (w0 : Option Addr) (l1 : Sl) (R : Value → Heap → Prop) (h : Heap) : Prop :=
  loopW (fun X_2 (s_1 : Int) (h : Heap) =>
  if (decide (s_1 < ((l1.n : Int)))) = true then
  joinW (fun (s_3 : Unit) (h : Heap) =>
  idxK l1 s_1 (sizeOfT Try.prog T.int) (fun (a_4 : Addr) =>
  loadK (.int .i64) h ((some a_4)) (fun (v_5 : Int) =>
  newSlK h 1 #[(.int .u8 (IntKind.u8.wrap v_5))] T.uint8 (fun (v_6 : Sl) (h : Heap) =>
  callK Try.prog .unit F.ref17_Writer_put #[(.pointer w0), (.slice v_6.a v_6.n v_6.c)] (fun (v_7 : Unit) (h : Heap) =>
  X_2 (IntKind.i64.wrap (s_1 + 1)) h) h))))
  (fun J_8 =>
  joinW (fun (s_9 : Bool) (h : Heap) =>
  if s_9 = true then
  derefK w0 (fun (a_10 : Addr) =>
  fldK ((some a_10)) 1 (fun (a_11 : Addr) =>
  storeK h ((some a_11)) (.int .i64 2) (fun (h : Heap) =>
  J_8 () h)))
  else
  J_8 () h)
  (fun J_12 =>
  derefK w0 (fun (a_13 : Addr) =>
  fldK ((some a_13)) 1 (fun (a_14 : Addr) =>
  loadK (.int .i64) h ((some a_14)) (fun (v_15 : Int) =>
  if (v_15 == 0) = true then
  idxK l1 s_1 (sizeOfT Try.prog T.int) (fun (a_16 : Addr) =>
  loadK (.int .i64) h ((some a_16)) (fun (v_17 : Int) =>
  if (decide (v_17 < 0)) = true then
  J_12 true h
  else
  idxK l1 s_1 (sizeOfT Try.prog T.int) (fun (a_18 : Addr) =>
  loadK (.int .i64) h ((some a_18)) (fun (v_19 : Int) =>
  J_12 (decide (v_19 > 255)) h))))
  else
  J_12 false h)))))
  else
  derefK w0 (fun (a_20 : Addr) =>
  fldK ((some a_20)) 1 (fun (a_21 : Addr) =>
  loadK (.int .i64) h ((some a_21)) (fun (v_22 : Int) =>
  R (.int .i64 v_22) h)))) 0 h
def ref17_Writer_Byte.ann : Ann := (.seq .leaf (.seq (.seq .leaf (.block (.loop [(5, (.int .i64))] (.seq (.seq .leaf (.cond .leaf .leaf)) (.seq (.block (.join [] (.join [(30, .bool)] .leaf (.cond .leaf .leaf)) .leaf)) .leaf))))) (.seq .leaf .leaf)))
theorem ref17_Writer_Byte.eq (w0 : Option Addr) (l1 : Sl) (R : Value → Heap → Prop) (h : Heap) : ref17_Writer_Byte.body w0 l1 R h = evFn Try.prog Try.f19 ref17_Writer_Byte.ann [(.pointer w0), (.slice l1.a l1.n l1.c)] R h := by kernel_rfl
theorem ref17_Writer_Byte.calls {w0 : Option Addr} {l1 : Sl} {R : Value → Heap → Prop} {h : Heap} (H : ref17_Writer_Byte.body w0 l1 R h) : HC Try.prog F.ref17_Writer_Byte #[(.pointer w0), (.slice l1.a l1.n l1.c)] R h :=
  evFn_sound mixed Try.func19 (by kernel_rfl) (ref17_Writer_Byte.eq w0 l1 R h ▸ H)

/-! (*zugzwang/zugzwangref17.Writer).Tag -/
def ref17_Writer_Tag.body (w0 : Option Addr) (l1 : Sl) (R : Value → Heap → Prop) (h : Heap) : Prop :=
  loopW (fun X_2 (s_1 : Int) (h : Heap) =>
  if (decide (s_1 < ((l1.n : Int)))) = true then
  loopW (fun X_4 (s_3 : Sl × Int) (h : Heap) =>
  if (decide (s_3.2 < 32)) = true then
  idxK l1 s_1 (sizeOfT Try.prog T.api_Tag) (fun (a_5 : Addr) =>
  idxArrK ((some a_5)) 32 s_3.2 (sizeOfT Try.prog T.uint8) (fun (a_6 : Addr) =>
  loadK (.int .u8) h ((some a_6)) (fun (v_7 : Int) =>
  newSlK h 1 #[(.int .u8 v_7)] T.uint8 (fun (v_8 : Sl) (h : Heap) =>
  opK Try.prog .slice (Builtin.append_ #[T.sl_uint8, T.sl_uint8] T.sl_uint8 #[(.slice s_3.1.a s_3.1.n s_3.1.c), (.slice v_8.a v_8.n v_8.c)]) (fun (v_9 : Sl) (h : Heap) =>
  X_4 (v_9, IntKind.i64.wrap (s_3.2 + 1)) h) h))))
  else
  callK Try.prog .unit F.ref17_Writer_put #[(.pointer w0), (.slice s_3.1.a s_3.1.n s_3.1.c)] (fun (v_10 : Unit) (h : Heap) =>
  X_2 (IntKind.i64.wrap (s_1 + 1)) h) h) (⟨none, 0, 0⟩, 0) h
  else
  derefK w0 (fun (a_11 : Addr) =>
  fldK ((some a_11)) 1 (fun (a_12 : Addr) =>
  loadK (.int .i64) h ((some a_12)) (fun (v_13 : Int) =>
  R (.int .i64 v_13) h)))) 0 h
def ref17_Writer_Tag.ann : Ann := (.seq .leaf (.seq (.seq .leaf (.block (.loop [(5, (.int .i64))] (.seq (.seq .leaf (.cond .leaf .leaf)) (.seq (.block (.seq .leaf (.seq (.seq .leaf (.block (.loop [(6, .slice), (7, (.int .i64))] (.seq (.seq .leaf (.cond .leaf .leaf)) (.seq (.block .leaf) .leaf))))) .leaf))) .leaf))))) (.seq .leaf .leaf)))
theorem ref17_Writer_Tag.eq (w0 : Option Addr) (l1 : Sl) (R : Value → Heap → Prop) (h : Heap) : ref17_Writer_Tag.body w0 l1 R h = evFn Try.prog Try.f21 ref17_Writer_Tag.ann [(.pointer w0), (.slice l1.a l1.n l1.c)] R h := by kernel_rfl
theorem ref17_Writer_Tag.calls {w0 : Option Addr} {l1 : Sl} {R : Value → Heap → Prop} {h : Heap} (H : ref17_Writer_Tag.body w0 l1 R h) : HC Try.prog F.ref17_Writer_Tag #[(.pointer w0), (.slice l1.a l1.n l1.c)] R h :=
  evFn_sound mixed Try.func21 (by kernel_rfl) (ref17_Writer_Tag.eq w0 l1 R h ▸ H)

/-! zugzwang/zugzwangref17.Four -/
def ref17_Four.body (n0 : Int) (R : Value → Heap → Prop) (h : Heap) : Prop :=
  shiftK 24
  (shiftK 16
  (shiftK 8
  (newSlK h 4 #[(.int .u8 (IntKind.u8.wrap (Int.fdiv n0 (2 ^ min (Int.toNat 24) (IntKind.bits .i64))))), (.int .u8 (IntKind.u8.wrap (Int.fdiv n0 (2 ^ min (Int.toNat 16) (IntKind.bits .i64))))), (.int .u8 (IntKind.u8.wrap (Int.fdiv n0 (2 ^ min (Int.toNat 8) (IntKind.bits .i64))))), (.int .u8 (IntKind.u8.wrap n0))] T.uint8 (fun (v_1 : Sl) (h : Heap) =>
  R (.slice v_1.a v_1.n v_1.c) h))))
def ref17_Four.ann : Ann := (.seq .leaf (.seq .leaf .leaf))
theorem ref17_Four.eq (n0 : Int) (R : Value → Heap → Prop) (h : Heap) : ref17_Four.body n0 R h = evFn Try.prog Try.f41 ref17_Four.ann [(.int .i64 n0)] R h := by kernel_rfl
theorem ref17_Four.calls {n0 : Int} {R : Value → Heap → Prop} {h : Heap} (H : ref17_Four.body n0 R h) : HC Try.prog F.ref17_Four #[(.int .i64 n0)] R h :=
  evFn_sound mixed Try.func41 (by kernel_rfl) (ref17_Four.eq n0 R h ▸ H)

/-! (*zugzwang/zugzwangref17.Writer).Number -/
def ref17_Writer_Number.body (w0 : Option Addr) (l1 : Sl) (R : Value → Heap → Prop) (h : Heap) : Prop :=
  loopW (fun X_2 (s_1 : Int) (h : Heap) =>
  if (decide (s_1 < ((l1.n : Int)))) = true then
  joinW (fun (s_3 : Unit) (h : Heap) =>
  idxK l1 s_1 (sizeOfT Try.prog T.int) (fun (a_4 : Addr) =>
  loadK (.int .i64) h ((some a_4)) (fun (v_5 : Int) =>
  callK Try.prog .slice F.ref17_Four #[(.int .i64 v_5)] (fun (v_6 : Sl) (h : Heap) =>
  callK Try.prog .unit F.ref17_Writer_put #[(.pointer w0), (.slice v_6.a v_6.n v_6.c)] (fun (v_7 : Unit) (h : Heap) =>
  X_2 (IntKind.i64.wrap (s_1 + 1)) h) h) h)))
  (fun J_8 =>
  joinW (fun (s_9 : Bool) (h : Heap) =>
  if s_9 = true then
  derefK w0 (fun (a_10 : Addr) =>
  fldK ((some a_10)) 1 (fun (a_11 : Addr) =>
  storeK h ((some a_11)) (.int .i64 2) (fun (h : Heap) =>
  J_8 () h)))
  else
  J_8 () h)
  (fun J_12 =>
  derefK w0 (fun (a_13 : Addr) =>
  fldK ((some a_13)) 1 (fun (a_14 : Addr) =>
  loadK (.int .i64) h ((some a_14)) (fun (v_15 : Int) =>
  if (v_15 == 0) = true then
  idxK l1 s_1 (sizeOfT Try.prog T.int) (fun (a_16 : Addr) =>
  loadK (.int .i64) h ((some a_16)) (fun (v_17 : Int) =>
  if (decide (v_17 < 0)) = true then
  J_12 true h
  else
  idxK l1 s_1 (sizeOfT Try.prog T.int) (fun (a_18 : Addr) =>
  loadK (.int .i64) h ((some a_18)) (fun (v_19 : Int) =>
  J_12 (decide (v_19 > 4294967295)) h))))
  else
  J_12 false h)))))
  else
  derefK w0 (fun (a_20 : Addr) =>
  fldK ((some a_20)) 1 (fun (a_21 : Addr) =>
  loadK (.int .i64) h ((some a_21)) (fun (v_22 : Int) =>
  R (.int .i64 v_22) h)))) 0 h
def ref17_Writer_Number.ann : Ann := (.seq .leaf (.seq (.seq .leaf (.block (.loop [(5, (.int .i64))] (.seq (.seq .leaf (.cond .leaf .leaf)) (.seq (.block (.join [] (.join [(30, .bool)] .leaf (.cond .leaf .leaf)) .leaf)) .leaf))))) (.seq .leaf .leaf)))
theorem ref17_Writer_Number.eq (w0 : Option Addr) (l1 : Sl) (R : Value → Heap → Prop) (h : Heap) : ref17_Writer_Number.body w0 l1 R h = evFn Try.prog Try.f32 ref17_Writer_Number.ann [(.pointer w0), (.slice l1.a l1.n l1.c)] R h := by kernel_rfl
theorem ref17_Writer_Number.calls {w0 : Option Addr} {l1 : Sl} {R : Value → Heap → Prop} {h : Heap} (H : ref17_Writer_Number.body w0 l1 R h) : HC Try.prog F.ref17_Writer_Number #[(.pointer w0), (.slice l1.a l1.n l1.c)] R h :=
  evFn_sound mixed Try.func32 (by kernel_rfl) (ref17_Writer_Number.eq w0 l1 R h ▸ H)

/-! zugzwang/zugzwangref18.put -/
def ref18_put.body (w0 : Option Addr) (e1 : Array Value) (R : Value → Heap → Prop) (h : Heap) : Prop :=
  newK h e1 T.api_Entry (fun (e_1 : Option Addr) (h : Heap) =>
  fldK e_1 0 (fun (a_2 : Addr) =>
  loadAggK (sizeOfT Try.prog T.api_Tag) h ((some a_2)) (fun (v_3 : Array Value) =>
  opK Try.prog .slice (Instr.buildSlice T.sl_api_Tag 1 #[(0, (.agg v_3))]) (fun (v_4 : Sl) (h : Heap) =>
  callK Try.prog (.int .i64) F.ref17_Writer_Tag #[(.pointer w0), (.slice v_4.a v_4.n v_4.c)] (fun (v_5 : Int) (h : Heap) =>
  fldK e_1 32 (fun (a_6 : Addr) =>
  loadK (.int .i64) h ((some a_6)) (fun (v_7 : Int) =>
  newSlK h 1 #[(.int .i64 v_7)] T.int (fun (v_8 : Sl) (h : Heap) =>
  callK Try.prog (.int .i64) F.ref17_Writer_Number #[(.pointer w0), (.slice v_8.a v_8.n v_8.c)] (fun (v_9 : Int) (h : Heap) =>
  fldK e_1 33 (fun (a_10 : Addr) =>
  loadAggK (sizeOfT Try.prog T.api_Tag) h ((some a_10)) (fun (v_11 : Array Value) =>
  opK Try.prog .slice (Instr.buildSlice T.sl_api_Tag 1 #[(0, (.agg v_11))]) (fun (v_12 : Sl) (h : Heap) =>
  callK Try.prog (.int .i64) F.ref17_Writer_Tag #[(.pointer w0), (.slice v_12.a v_12.n v_12.c)] (fun (v_13 : Int) (h : Heap) =>
  fldK e_1 65 (fun (a_14 : Addr) =>
  loadAggK (sizeOfT Try.prog T.api_Body) h ((some a_14)) (fun (v_15 : Array Value) =>
  newK h (zerosOf Try.prog T.api_Body) T.api_Body (fun (b_16 : Option Addr) (h : Heap) =>
  storeAggK (sizeOfT Try.prog T.api_Body) h b_16 v_15 (fun (h : Heap) =>
  fldK b_16 0 (fun (a_17 : Addr) =>
  loadK (.int .i64) h ((some a_17)) (fun (v_18 : Int) =>
  newSlK h 1 #[(.int .i64 v_18)] T.int (fun (v_19 : Sl) (h : Heap) =>
  callK Try.prog (.int .i64) F.ref17_Writer_Byte #[(.pointer w0), (.slice v_19.a v_19.n v_19.c)] (fun (v_20 : Int) (h : Heap) =>
  fldK b_16 1 (fun (a_21 : Addr) =>
  fldK ((some a_21)) 0 (fun (a_22 : Addr) =>
  loadK (.int .i64) h ((some a_22)) (fun (v_23 : Int) =>
  fldK b_16 1 (fun (a_24 : Addr) =>
  fldK ((some a_24)) 1 (fun (a_25 : Addr) =>
  loadK (.int .i64) h ((some a_25)) (fun (v_26 : Int) =>
  fldK b_16 1 (fun (a_27 : Addr) =>
  fldK ((some a_27)) 2 (fun (a_28 : Addr) =>
  loadK (.int .i64) h ((some a_28)) (fun (v_29 : Int) =>
  newSlK h 3 #[(.int .i64 v_23), (.int .i64 v_26), (.int .i64 v_29)] T.int (fun (v_30 : Sl) (h : Heap) =>
  fldK b_16 0 (fun (a_31 : Addr) =>
  loadK (.int .i64) h ((some a_31)) (fun (v_32 : Int) =>
  if (v_32 == 1) = true then
  callK Try.prog (.int .i64) F.ref17_Writer_Byte #[(.pointer w0), (.slice v_30.a v_30.n v_30.c)] (fun (v_33 : Int) (h : Heap) =>
  fldK b_16 4 (fun (a_34 : Addr) =>
  loadK .bool h ((some a_34)) (fun (v_35 : Bool) =>
  if v_35 = true then
  newSlK h 1 #[(.int .i64 1)] T.int (fun (v_36 : Sl) (h : Heap) =>
  callK Try.prog (.int .i64) F.ref17_Writer_Byte #[(.pointer w0), (.slice v_36.a v_36.n v_36.c)] (fun (v_37 : Int) (h : Heap) =>
  R (.tuple #[]) h) h)
  else
  newSlK h 1 #[(.int .i64 0)] T.int (fun (v_38 : Sl) (h : Heap) =>
  callK Try.prog (.int .i64) F.ref17_Writer_Byte #[(.pointer w0), (.slice v_38.a v_38.n v_38.c)] (fun (v_39 : Int) (h : Heap) =>
  R (.tuple #[]) h) h)))) h
  else
  if (v_32 == 2) = true then
  fldK b_16 5 (fun (a_40 : Addr) =>
  loadK (.int .i64) h ((some a_40)) (fun (v_41 : Int) =>
  newSlK h 1 #[(.int .i64 v_41)] T.int (fun (v_42 : Sl) (h : Heap) =>
  callK Try.prog (.int .i64) F.ref17_Writer_Byte #[(.pointer w0), (.slice v_42.a v_42.n v_42.c)] (fun (v_43 : Int) (h : Heap) =>
  R (.tuple #[]) h) h)))
  else
  if (v_32 == 5) = true then
  fldK b_16 6 (fun (a_44 : Addr) =>
  loadAggK (sizeOfT Try.prog T.api_Tag) h ((some a_44)) (fun (v_45 : Array Value) =>
  opK Try.prog .slice (Instr.buildSlice T.sl_api_Tag 1 #[(0, (.agg v_45))]) (fun (v_46 : Sl) (h : Heap) =>
  callK Try.prog (.int .i64) F.ref17_Writer_Tag #[(.pointer w0), (.slice v_46.a v_46.n v_46.c)] (fun (v_47 : Int) (h : Heap) =>
  R (.tuple #[]) h) h) h))
  else
  if (v_32 == 7) = true then
  callK Try.prog (.int .i64) F.ref17_Writer_Byte #[(.pointer w0), (.slice v_30.a v_30.n v_30.c)] (fun (v_48 : Int) (h : Heap) =>
  fldK b_16 38 (fun (a_49 : Addr) =>
  loadAggK (sizeOfT Try.prog T.api_Tag) h ((some a_49)) (fun (v_50 : Array Value) =>
  opK Try.prog .slice (Instr.buildSlice T.sl_api_Tag 1 #[(0, (.agg v_50))]) (fun (v_51 : Sl) (h : Heap) =>
  callK Try.prog (.int .i64) F.ref17_Writer_Tag #[(.pointer w0), (.slice v_51.a v_51.n v_51.c)] (fun (v_52 : Int) (h : Heap) =>
  R (.tuple #[]) h) h) h))) h
  else
  R (.tuple #[]) h))))))))))))) h)))))))) h) h))) h)))) h) h)))
def ref18_put.ann : Ann := (.seq .leaf (.seq .leaf (.seq .leaf (.seq .leaf (.seq .leaf (.seq .leaf (.seq .leaf (.seq .leaf (.block (.seq .leaf (.cond (.seq .leaf (.seq .leaf (.cond .leaf .leaf))) (.seq .leaf (.cond .leaf (.seq .leaf (.cond .leaf (.seq .leaf (.cond (.seq .leaf .leaf) .leaf)))))))))))))))))
theorem ref18_put.eq (w0 : Option Addr) (e1 : Array Value) (R : Value → Heap → Prop) (h : Heap) : ref18_put.body w0 e1 R h = evFn Try.prog Try.f20 ref18_put.ann [(.pointer w0), (.agg e1)] R h := by kernel_rfl
theorem ref18_put.calls {w0 : Option Addr} {e1 : Array Value} {R : Value → Heap → Prop} {h : Heap} (H : ref18_put.body w0 e1 R h) : HC Try.prog F.ref18_put #[(.pointer w0), (.agg e1)] R h :=
  evFn_sound mixed Try.func20 (by kernel_rfl) (ref18_put.eq w0 e1 R h ▸ H)

/-! zugzwang/zugzwangref18.Put -/
def ref18_Put.body (m0 : Array Value) (R : Value → Heap → Prop) (h : Heap) : Prop :=
  newK h m0 T.api_Msg (fun (m_1 : Option Addr) (h : Heap) =>
  loadAggK (sizeOfT Try.prog T.api_Msg) h m_1 (fun (v_2 : Array Value) =>
  callK Try.prog .bool F.ref18_Right #[(.agg v_2)] (fun (v_3 : Bool) (h : Heap) =>
  if (!v_3) = true then
  R (.tuple #[(.slice none 0 0), (.int .i64 2)]) h
  else
  buildK Try.prog (Instr.build T.zugzwangref17_Writer #[]) (fun (v_4 : Array Value) =>
  newK h v_4 T.zugzwangref17_Writer (fun (v_5 : Option Addr) (h : Heap) =>
  fldK m_1 0 (fun (a_6 : Addr) =>
  loadK (.int .i64) h ((some a_6)) (fun (v_7 : Int) =>
  newSlK h 1 #[(.int .i64 v_7)] T.int (fun (v_8 : Sl) (h : Heap) =>
  callK Try.prog (.int .i64) F.ref17_Writer_Byte #[(.pointer v_5), (.slice v_8.a v_8.n v_8.c)] (fun (v_9 : Int) (h : Heap) =>
  fldK m_1 0 (fun (a_10 : Addr) =>
  loadK (.int .i64) h ((some a_10)) (fun (v_11 : Int) =>
  if (v_11 == 3) = true then
  fldK m_1 99 (fun (a_12 : Addr) =>
  loadAggK (sizeOfT Try.prog T.api_Entry) h ((some a_12)) (fun (v_13 : Array Value) =>
  callK Try.prog .unit F.ref18_put #[(.pointer v_5), (.agg v_13)] (fun (v_14 : Unit) (h : Heap) =>
  derefK v_5 (fun (a_15 : Addr) =>
  fldK ((some a_15)) 0 (fun (a_16 : Addr) =>
  loadK .slice h ((some a_16)) (fun (v_17 : Sl) =>
  R (.tuple #[(.slice v_17.a v_17.n v_17.c), (.int .i64 0)]) h)))) h))
  else
  fldK m_1 1 (fun (a_18 : Addr) =>
  loadAggK (sizeOfT Try.prog T.api_Tag) h ((some a_18)) (fun (v_19 : Array Value) =>
  opK Try.prog .slice (Instr.buildSlice T.sl_api_Tag 1 #[(0, (.agg v_19))]) (fun (v_20 : Sl) (h : Heap) =>
  callK Try.prog (.int .i64) F.ref17_Writer_Tag #[(.pointer v_5), (.slice v_20.a v_20.n v_20.c)] (fun (v_21 : Int) (h : Heap) =>
  fldK m_1 33 (fun (a_22 : Addr) =>
  loadK (.int .i64) h ((some a_22)) (fun (v_23 : Int) =>
  newSlK h 1 #[(.int .i64 v_23)] T.int (fun (v_24 : Sl) (h : Heap) =>
  callK Try.prog (.int .i64) F.ref17_Writer_Byte #[(.pointer v_5), (.slice v_24.a v_24.n v_24.c)] (fun (v_25 : Int) (h : Heap) =>
  joinW (fun (s_26 : Unit) (h : Heap) =>
  derefK v_5 (fun (a_27 : Addr) =>
  fldK ((some a_27)) 0 (fun (a_28 : Addr) =>
  loadK .slice h ((some a_28)) (fun (v_29 : Sl) =>
  R (.tuple #[(.slice v_29.a v_29.n v_29.c), (.int .i64 0)]) h))))
  (fun J_30 =>
  fldK m_1 0 (fun (a_31 : Addr) =>
  loadK (.int .i64) h ((some a_31)) (fun (v_32 : Int) =>
  if (v_32 == 1) = true then
  fldK m_1 34 (fun (a_33 : Addr) =>
  loadAggK (sizeOfT Try.prog T.api_Tag) h ((some a_33)) (fun (v_34 : Array Value) =>
  opK Try.prog .slice (Instr.buildSlice T.sl_api_Tag 1 #[(0, (.agg v_34))]) (fun (v_35 : Sl) (h : Heap) =>
  callK Try.prog (.int .i64) F.ref17_Writer_Tag #[(.pointer v_5), (.slice v_35.a v_35.n v_35.c)] (fun (v_36 : Int) (h : Heap) =>
  J_30 () h) h) h))
  else
  if (v_32 == 2) = true then
  fldK m_1 66 (fun (a_37 : Addr) =>
  loadK (.int .i64) h ((some a_37)) (fun (v_38 : Int) =>
  newSlK h 1 #[(.int .i64 v_38)] T.int (fun (v_39 : Sl) (h : Heap) =>
  callK Try.prog (.int .i64) F.ref17_Writer_Byte #[(.pointer v_5), (.slice v_39.a v_39.n v_39.c)] (fun (v_40 : Int) (h : Heap) =>
  fldK m_1 67 (fun (a_41 : Addr) =>
  loadAggK (sizeOfT Try.prog T.api_Tag) h ((some a_41)) (fun (v_42 : Array Value) =>
  opK Try.prog .slice (Instr.buildSlice T.sl_api_Tag 1 #[(0, (.agg v_42))]) (fun (v_43 : Sl) (h : Heap) =>
  callK Try.prog (.int .i64) F.ref17_Writer_Tag #[(.pointer v_5), (.slice v_43.a v_43.n v_43.c)] (fun (v_44 : Int) (h : Heap) =>
  J_30 () h) h) h))) h)))
  else
  J_30 () h)))) h)))) h) h))))) h)))))) h))
def ref18_Put.ann : Ann := (.seq .leaf (.seq (.seq .leaf (.cond (.seq .leaf .leaf) .leaf)) (.seq .leaf (.seq .leaf (.seq (.seq .leaf (.cond (.seq .leaf (.seq .leaf .leaf)) .leaf)) (.seq .leaf (.seq .leaf (.join [] (.seq .leaf (.block (.seq .leaf (.cond .leaf (.seq .leaf (.cond (.seq .leaf .leaf) .leaf)))))) (.seq .leaf .leaf)))))))))
theorem ref18_Put.eq (m0 : Array Value) (R : Value → Heap → Prop) (h : Heap) : ref18_Put.body m0 R h = evFn Try.prog Try.f5 ref18_Put.ann [(.agg m0)] R h := by kernel_rfl
theorem ref18_Put.calls {m0 : Array Value} {R : Value → Heap → Prop} {h : Heap} (H : ref18_Put.body m0 R h) : HC Try.prog F.ref18_Put #[(.agg m0)] R h :=
  evFn_sound mixed Try.func5 (by kernel_rfl) (ref18_Put.eq m0 R h ▸ H)

/-! zugzwang/msg.PutEntry -/
def msg_PutEntry.body (e0 : Array Value) (R : Value → Heap → Prop) (h : Heap) : Prop :=
  newK h e0 T.api_Entry (fun (e_1 : Option Addr) (h : Heap) =>
  loadAggK (sizeOfT Try.prog T.api_Entry) h e_1 (fun (v_2 : Array Value) =>
  callK Try.prog .bool F.msg_Entry #[(.agg v_2)] (fun (v_3 : Bool) (h : Heap) =>
  if (!v_3) = true then
  R (.tuple #[(.slice none 0 0), (.int .i64 2)]) h
  else
  callK Try.prog .ptr F.codec_New #[] (fun (v_4 : Option Addr) (h : Heap) =>
  buildK Try.prog (Instr.build T.msg_scribe #[(0, (.pointer v_4))]) (fun (v_5 : Array Value) =>
  newK h (zerosOf Try.prog T.msg_scribe) T.msg_scribe (fun (s_6 : Option Addr) (h : Heap) =>
  storeAggK (sizeOfT Try.prog T.msg_scribe) h s_6 v_5 (fun (h : Heap) =>
  loadAggK (sizeOfT Try.prog T.msg_scribe) h s_6 (fun (v_7 : Array Value) =>
  loadAggK (sizeOfT Try.prog T.api_Entry) h e_1 (fun (v_8 : Array Value) =>
  opK Try.prog .slice (Instr.buildSlice T.sl_api_Entry 1 #[(0, (.agg v_8))]) (fun (v_9 : Sl) (h : Heap) =>
  callK Try.prog .unit F.msg_scribe_entries #[(.agg v_7), (.slice v_9.a v_9.n v_9.c)] (fun (v_10 : Unit) (h : Heap) =>
  fldK s_6 0 (fun (a_11 : Addr) =>
  loadK .ptr h ((some a_11)) (fun (v_12 : Option Addr) =>
  callK Try.prog (Kd.pair .slice (.int .i64)) F.codec_Writer_Out #[(.pointer v_12)] (fun (v_13 : Sl × Int) (h : Heap) =>
  R (.tuple #[(.slice v_13.1.a v_13.1.n v_13.1.c), (.int .i64 v_13.2)]) h) h))) h) h)))))) h) h))
def msg_PutEntry.ann : Ann := (.seq .leaf (.seq (.seq .leaf (.cond (.seq .leaf .leaf) .leaf)) (.seq .leaf (.seq .leaf (.seq .leaf .leaf)))))
theorem msg_PutEntry.eq (e0 : Array Value) (R : Value → Heap → Prop) (h : Heap) : msg_PutEntry.body e0 R h = evFn Try.prog Try.f6 msg_PutEntry.ann [(.agg e0)] R h := by kernel_rfl
theorem msg_PutEntry.calls {e0 : Array Value} {R : Value → Heap → Prop} {h : Heap} (H : msg_PutEntry.body e0 R h) : HC Try.prog F.msg_PutEntry #[(.agg e0)] R h :=
  evFn_sound mixed Try.func6 (by kernel_rfl) (msg_PutEntry.eq e0 R h ▸ H)

/-! zugzwang/zugzwangref18.PutEntry -/
def ref18_PutEntry.body (e0 : Array Value) (R : Value → Heap → Prop) (h : Heap) : Prop :=
  newK h e0 T.api_Entry (fun (e_1 : Option Addr) (h : Heap) =>
  loadAggK (sizeOfT Try.prog T.api_Entry) h e_1 (fun (v_2 : Array Value) =>
  callK Try.prog .bool F.ref18_Entry #[(.agg v_2)] (fun (v_3 : Bool) (h : Heap) =>
  if (!v_3) = true then
  R (.tuple #[(.slice none 0 0), (.int .i64 2)]) h
  else
  buildK Try.prog (Instr.build T.zugzwangref17_Writer #[]) (fun (v_4 : Array Value) =>
  newK h v_4 T.zugzwangref17_Writer (fun (v_5 : Option Addr) (h : Heap) =>
  loadAggK (sizeOfT Try.prog T.api_Entry) h e_1 (fun (v_6 : Array Value) =>
  callK Try.prog .unit F.ref18_put #[(.pointer v_5), (.agg v_6)] (fun (v_7 : Unit) (h : Heap) =>
  derefK v_5 (fun (a_8 : Addr) =>
  fldK ((some a_8)) 0 (fun (a_9 : Addr) =>
  loadK .slice h ((some a_9)) (fun (v_10 : Sl) =>
  R (.tuple #[(.slice v_10.a v_10.n v_10.c), (.int .i64 0)]) h)))) h)))) h))
def ref18_PutEntry.ann : Ann := (.seq .leaf (.seq (.seq .leaf (.cond (.seq .leaf .leaf) .leaf)) (.seq .leaf (.seq .leaf (.seq .leaf .leaf)))))
theorem ref18_PutEntry.eq (e0 : Array Value) (R : Value → Heap → Prop) (h : Heap) : ref18_PutEntry.body e0 R h = evFn Try.prog Try.f7 ref18_PutEntry.ann [(.agg e0)] R h := by kernel_rfl
theorem ref18_PutEntry.calls {e0 : Array Value} {R : Value → Heap → Prop} {h : Heap} (H : ref18_PutEntry.body e0 R h) : HC Try.prog F.ref18_PutEntry #[(.agg e0)] R h :=
  evFn_sound mixed Try.func7 (by kernel_rfl) (ref18_PutEntry.eq e0 R h ▸ H)

/-! zugzwang/zugzwangkit.SameBytes -/
def kit_SameBytes.body (a0 : Sl) (b1 : Sl) (R : Value → Heap → Prop) (h : Heap) : Prop :=
  if (((a0.n : Int)) != ((b1.n : Int))) = true then
  R (.bool false) h
  else
  loopW (fun X_2 (s_1 : Int) (h : Heap) =>
  if (decide (s_1 < ((a0.n : Int)))) = true then
  idxK a0 s_1 (sizeOfT Try.prog T.uint8) (fun (a_3 : Addr) =>
  loadK (.int .u8) h ((some a_3)) (fun (v_4 : Int) =>
  idxK b1 s_1 (sizeOfT Try.prog T.uint8) (fun (a_5 : Addr) =>
  loadK (.int .u8) h ((some a_5)) (fun (v_6 : Int) =>
  if (v_4 != v_6) = true then
  R (.bool false) h
  else
  X_2 (IntKind.i64.wrap (s_1 + 1)) h))))
  else
  R (.bool true) h) 0 h
def kit_SameBytes.ann : Ann := (.seq .leaf (.seq (.seq .leaf (.cond (.seq .leaf .leaf) .leaf)) (.seq (.seq .leaf (.block (.loop [(5, (.int .i64))] (.seq (.seq .leaf (.cond .leaf .leaf)) (.seq (.block (.seq .leaf (.cond (.seq .leaf .leaf) .leaf))) .leaf))))) (.seq .leaf .leaf))))
theorem kit_SameBytes.eq (a0 : Sl) (b1 : Sl) (R : Value → Heap → Prop) (h : Heap) : kit_SameBytes.body a0 b1 R h = evFn Try.prog Try.f14 kit_SameBytes.ann [(.slice a0.a a0.n a0.c), (.slice b1.a b1.n b1.c)] R h := by kernel_rfl
theorem kit_SameBytes.calls {a0 : Sl} {b1 : Sl} {R : Value → Heap → Prop} {h : Heap} (H : kit_SameBytes.body a0 b1 R h) : HC Try.prog F.kit_SameBytes #[(.slice a0.a a0.n a0.c), (.slice b1.a b1.n b1.c)] R h :=
  evFn_sound mixed Try.func14 (by kernel_rfl) (kit_SameBytes.eq a0 b1 R h ▸ H)

/-! zugzwang/zugzwanglaw18.move -/
def law18_move.body (from0 : Int) (to1 : Int) (offer2 : Bool) (R : Value → Heap → Prop) (h : Heap) : Prop :=
  newK h (zerosOf Try.prog T.api_Body) T.api_Body (fun (v_1 : Option Addr) (h : Heap) =>
  buildK Try.prog (Instr.build T.api_Move #[(0, (.int .i64 from0)), (1, (.int .i64 to1))]) (fun (v_2 : Array Value) =>
  buildK Try.prog (Instr.build T.api_Body #[(0, (.int .i64 1)), (1, (.agg v_2)), (2, (.bool offer2))]) (fun (v_3 : Array Value) =>
  storeAggK (sizeOfT Try.prog T.api_Body) h v_1 v_3 (fun (h : Heap) =>
  quietK Try.prog .agg (Instr.loadAt T.api_Body (.pointer v_1)) (fun (r_4 : Array Value) =>
  R (.agg r_4) h) h))))
def law18_move.ann : Ann := (.seq .leaf (.seq .leaf .leaf))
theorem law18_move.eq (from0 : Int) (to1 : Int) (offer2 : Bool) (R : Value → Heap → Prop) (h : Heap) : law18_move.body from0 to1 offer2 R h = evFn Try.prog Try.f26 law18_move.ann [(.int .i64 from0), (.int .i64 to1), (.bool offer2)] R h := by kernel_rfl
theorem law18_move.calls {from0 : Int} {to1 : Int} {offer2 : Bool} {R : Value → Heap → Prop} {h : Heap} (H : law18_move.body from0 to1 offer2 R h) : HC Try.prog F.law18_move #[(.int .i64 from0), (.int .i64 to1), (.bool offer2)] R h :=
  evFn_sound mixed Try.func26 (by kernel_rfl) (law18_move.eq from0 to1 offer2 R h ▸ H)

/-! zugzwang/zugzwanglaw18.awake -/
def law18_awake.body  (R : Value → Heap → Prop) (h : Heap) : Prop :=
  buildK Try.prog (Instr.build T.api_Tag #[(0, (.int .u8 9))]) (fun (v_1 : Array Value) =>
  buildK Try.prog (Instr.build T.api_Msg #[(0, (.int .i64 4)), (1, (.agg v_1)), (2, (.int .i64 1))]) (fun (v_2 : Array Value) =>
  callK Try.prog (Kd.pair .slice (.int .i64)) F.msg_Put #[(.agg v_2)] (fun (v_3 : Sl × Int) (h : Heap) =>
  callK Try.prog .agg F.law18_move #[(.int .i64 12), (.int .i64 28), (.bool false)] (fun (v_4 : Array Value) (h : Heap) =>
  buildK Try.prog (Instr.build T.api_Entry #[(3, (.agg v_4))]) (fun (v_5 : Array Value) =>
  callK Try.prog (Kd.pair .slice (.int .i64)) F.msg_PutEntry #[(.agg v_5)] (fun (v_6 : Sl × Int) (h : Heap) =>
  if (v_3.2 != 0) = true then
  R (.bool false) h
  else
  if (v_6.2 != 0) = true then
  R (.bool false) h
  else
  if (((v_3.1.n : Int)) != 34) = true then
  R (.bool false) h
  else
  if (((v_6.1.n : Int)) != 73) = true then
  R (.bool false) h
  else
  idxK v_3.1 0 (sizeOfT Try.prog T.uint8) (fun (a_7 : Addr) =>
  loadK (.int .u8) h ((some a_7)) (fun (v_8 : Int) =>
  if (v_8 == 4) = true then
  idxK v_3.1 1 (sizeOfT Try.prog T.uint8) (fun (a_9 : Addr) =>
  loadK (.int .u8) h ((some a_9)) (fun (v_10 : Int) =>
  if (v_10 == 9) = true then
  idxK v_3.1 33 (sizeOfT Try.prog T.uint8) (fun (a_11 : Addr) =>
  loadK (.int .u8) h ((some a_11)) (fun (v_12 : Int) =>
  if (v_12 == 1) = true then
  sliceK v_6.1 (some 68) none none (sizeOfT Try.prog T.uint8) (fun (v_13 : Sl) =>
  newSlK h 5 #[(.int .u8 1), (.int .u8 12), (.int .u8 28), (.int .u8 0), (.int .u8 0)] T.uint8 (fun (v_14 : Sl) (h : Heap) =>
  callK Try.prog .bool F.kit_SameBytes #[(.slice v_13.a v_13.n v_13.c), (.slice v_14.a v_14.n v_14.c)] (fun (v_15 : Bool) (h : Heap) =>
  if v_15 = true then
  callK Try.prog .agg F.law18_move #[(.int .i64 12), (.int .i64 64), (.bool false)] (fun (v_16 : Array Value) (h : Heap) =>
  callK Try.prog .bool F.msg_Body #[(.agg v_16)] (fun (v_17 : Bool) (h : Heap) =>
  R (.bool (!v_17)) h) h) h
  else
  R (.bool false) h) h))
  else
  R (.bool false) h))
  else
  R (.bool false) h))
  else
  R (.bool false) h))) h)) h) h))
def law18_awake.ann : Ann := (.seq .leaf (.seq .leaf (.seq .leaf (.seq (.seq .leaf (.cond (.seq .leaf .leaf) .leaf)) (.seq .leaf .leaf)))))
theorem law18_awake.eq  (R : Value → Heap → Prop) (h : Heap) : law18_awake.body  R h = evFn Try.prog Try.f15 law18_awake.ann [] R h := by kernel_rfl
theorem law18_awake.calls  {R : Value → Heap → Prop} {h : Heap} (H : law18_awake.body  R h) : HC Try.prog F.law18_awake #[] R h :=
  evFn_sound mixed Try.func15 (by kernel_rfl) (law18_awake.eq  R h ▸ H)

/-! zugzwang/zugzwanglaw18.MsgPuts -/
def law18_MsgPuts.body (m0 : Array Value) (e1 : Array Value) (R : Value → Heap → Prop) (h : Heap) : Prop :=
  newK h m0 T.api_Msg (fun (m_1 : Option Addr) (h : Heap) =>
  newK h e1 T.api_Entry (fun (e_2 : Option Addr) (h : Heap) =>
  loadAggK (sizeOfT Try.prog T.api_Msg) h m_1 (fun (v_3 : Array Value) =>
  callK Try.prog (Kd.pair .slice (.int .i64)) F.msg_Put #[(.agg v_3)] (fun (v_4 : Sl × Int) (h : Heap) =>
  loadAggK (sizeOfT Try.prog T.api_Msg) h m_1 (fun (v_5 : Array Value) =>
  callK Try.prog (Kd.pair .slice (.int .i64)) F.ref18_Put #[(.agg v_5)] (fun (v_6 : Sl × Int) (h : Heap) =>
  loadAggK (sizeOfT Try.prog T.api_Entry) h e_2 (fun (v_7 : Array Value) =>
  callK Try.prog (Kd.pair .slice (.int .i64)) F.msg_PutEntry #[(.agg v_7)] (fun (v_8 : Sl × Int) (h : Heap) =>
  loadAggK (sizeOfT Try.prog T.api_Entry) h e_2 (fun (v_9 : Array Value) =>
  callK Try.prog (Kd.pair .slice (.int .i64)) F.ref18_PutEntry #[(.agg v_9)] (fun (v_10 : Sl × Int) (h : Heap) =>
  joinW (fun (s_11 : Bool) (h : Heap) =>
  if s_11 = true then
  callK Try.prog .bool F.kit_SameBytes #[(.slice v_4.1.a v_4.1.n v_4.1.c), (.slice v_6.1.a v_6.1.n v_6.1.c)] (fun (v_12 : Bool) (h : Heap) =>
  if v_12 = true then
  if (v_4.2 == v_6.2) = true then
  callK Try.prog .bool F.kit_SameBytes #[(.slice v_8.1.a v_8.1.n v_8.1.c), (.slice v_10.1.a v_10.1.n v_10.1.c)] (fun (v_13 : Bool) (h : Heap) =>
  if v_13 = true then
  if (v_8.2 == v_10.2) = true then
  callK Try.prog .bool F.law18_awake #[] (fun (v_14 : Bool) (h : Heap) =>
  R (.bool v_14) h) h
  else
  R (.bool false) h
  else
  R (.bool false) h) h
  else
  R (.bool false) h
  else
  R (.bool false) h) h
  else
  R (.bool false) h)
  (fun J_15 =>
  loadAggK (sizeOfT Try.prog T.api_Msg) h m_1 (fun (v_16 : Array Value) =>
  loadAggK (sizeOfT Try.prog T.api_Msg) h m_1 (fun (v_17 : Array Value) =>
  callK Try.prog .bool F.msg_Right #[(.agg v_16)] (fun (v_18 : Bool) (h : Heap) =>
  stillAggK (sizeOfT Try.prog T.api_Msg) h m_1 v_17 ∧
  callK Try.prog .bool F.ref18_Right #[(.agg v_17)] (fun (v_19 : Bool) (h : Heap) =>
  ((if (v_18 == v_19) = true then
  loadAggK (sizeOfT Try.prog T.api_Entry) h e_2 (fun (v_20 : Array Value) =>
  loadAggK (sizeOfT Try.prog T.api_Entry) h e_2 (fun (v_21 : Array Value) =>
  callK Try.prog .bool F.msg_Entry #[(.agg v_20)] (fun (v_22 : Bool) (h : Heap) =>
  stillAggK (sizeOfT Try.prog T.api_Entry) h e_2 v_21 ∧
  callK Try.prog .bool F.ref18_Entry #[(.agg v_21)] (fun (v_23 : Bool) (h : Heap) =>
  if (v_22 == v_23) = true then
  fldK e_2 65 (fun (a_24 : Addr) =>
  fldK e_2 65 (fun (a_25 : Addr) =>
  loadAggK (sizeOfT Try.prog T.api_Body) h ((some a_24)) (fun (v_26 : Array Value) =>
  loadAggK (sizeOfT Try.prog T.api_Body) h ((some a_25)) (fun (v_27 : Array Value) =>
  callK Try.prog .bool F.msg_Body #[(.agg v_26)] (fun (v_28 : Bool) (h : Heap) =>
  stillAggK (sizeOfT Try.prog T.api_Body) h ((some a_25)) v_27 ∧
  callK Try.prog .bool F.ref18_Body #[(.agg v_27)] (fun (v_29 : Bool) (h : Heap) =>
  if (v_28 == v_29) = true then
  fldK m_1 99 (fun (a_30 : Addr) =>
  fldK m_1 99 (fun (a_31 : Addr) =>
  loadAggK (sizeOfT Try.prog T.api_Entry) h ((some a_30)) (fun (v_32 : Array Value) =>
  loadAggK (sizeOfT Try.prog T.api_Entry) h ((some a_31)) (fun (v_33 : Array Value) =>
  callK Try.prog .bool F.msg_Entry #[(.agg v_32)] (fun (v_34 : Bool) (h : Heap) =>
  stillAggK (sizeOfT Try.prog T.api_Entry) h ((some a_31)) v_33 ∧
  callK Try.prog .bool F.ref18_Entry #[(.agg v_33)] (fun (v_35 : Bool) (h : Heap) =>
  J_15 (v_34 == v_35) h) h) h))))
  else
  J_15 false h) h) h))))
  else
  J_15 false h) h) h))
  else
  J_15 false h) ∧
  (if (v_18 == v_19) = true then
  loadAggK (sizeOfT Try.prog T.api_Entry) h e_2 (fun (v_36 : Array Value) =>
  loadAggK (sizeOfT Try.prog T.api_Entry) h e_2 (fun (v_37 : Array Value) =>
  callK Try.prog .bool F.msg_Entry #[(.agg v_37)] (fun (v_38 : Bool) (h : Heap) =>
  callK Try.prog .bool F.ref18_Entry #[(.agg v_36)] (fun (v_39 : Bool) (h : Heap) =>
  if (v_38 == v_39) = true then
  fldK e_2 65 (fun (a_40 : Addr) =>
  fldK e_2 65 (fun (a_41 : Addr) =>
  loadAggK (sizeOfT Try.prog T.api_Body) h ((some a_40)) (fun (v_42 : Array Value) =>
  loadAggK (sizeOfT Try.prog T.api_Body) h ((some a_41)) (fun (v_43 : Array Value) =>
  callK Try.prog .bool F.msg_Body #[(.agg v_42)] (fun (v_44 : Bool) (h : Heap) =>
  stillAggK (sizeOfT Try.prog T.api_Body) h ((some a_41)) v_43 ∧
  callK Try.prog .bool F.ref18_Body #[(.agg v_43)] (fun (v_45 : Bool) (h : Heap) =>
  if (v_44 == v_45) = true then
  fldK m_1 99 (fun (a_46 : Addr) =>
  fldK m_1 99 (fun (a_47 : Addr) =>
  loadAggK (sizeOfT Try.prog T.api_Entry) h ((some a_46)) (fun (v_48 : Array Value) =>
  loadAggK (sizeOfT Try.prog T.api_Entry) h ((some a_47)) (fun (v_49 : Array Value) =>
  callK Try.prog .bool F.msg_Entry #[(.agg v_48)] (fun (v_50 : Bool) (h : Heap) =>
  stillAggK (sizeOfT Try.prog T.api_Entry) h ((some a_47)) v_49 ∧
  callK Try.prog .bool F.ref18_Entry #[(.agg v_49)] (fun (v_51 : Bool) (h : Heap) =>
  J_15 (v_50 == v_51) h) h) h))))
  else
  J_15 false h) h) h))))
  else
  J_15 false h) h) h))
  else
  J_15 false h))) h) h)))) h)) h)) h)) h)))
def law18_MsgPuts.ann : Ann := (.seq .leaf (.seq .leaf (.seq .leaf (.seq .leaf (.seq .leaf (.join [(13, .bool)] (.any (.st 0 2147483642 (.st 2 2147483640 (.last 1 (.last 3 (.loc 4 (.loc 5 (.altA 6 (.st 8 2147483136 (.last 7 (.last 9 (.loc 10 (.loc 11 (.loc 12 (.locA 13 (.loc 16 (.st 14 2147254272 (.st 17 2147221504 (.last 15 (.last 18 (.loc 19 (.loc 20 (.loc 21 (.locA 22 (.loc 25 (.st 23 2030043136 (.st 26 2013265920 (.last 24 (.last 27 (.loc 28 (.loc 29 (.loc 30 .done)))))))) (.loc 23 (.loc 24 (.loc 25 (.loc 26 (.loc 27 (.loc 28 (.loc 29 (.loc 30 .done))))))))))))))))) (.loc 14 (.loc 15 (.loc 16 (.loc 17 (.loc 18 (.loc 19 (.loc 20 (.loc 21 (.loc 22 (.loc 23 (.loc 24 (.loc 25 (.loc 26 (.loc 27 (.loc 28 (.loc 29 (.loc 30 .done)))))))))))))))))))))))) (.loc 7 (.loc 8 (.loc 9 (.loc 10 (.loc 11 (.loc 12 (.loc 13 (.loc 14 (.loc 15 (.loc 16 (.loc 17 (.loc 18 (.loc 19 (.loc 20 (.loc 21 (.loc 22 (.loc 23 (.loc 24 (.loc 25 (.loc 26 (.loc 27 (.loc 28 (.loc 29 (.loc 30 .done)))))))))))))))))))))))) (.lastA 8 (.st 6 2147483264 (.last 7 (.last 9 (.loc 10 (.loc 11 (.loc 12 (.locA 13 (.loc 16 (.st 14 2147254272 (.st 17 2147221504 (.last 15 (.last 18 (.loc 19 (.loc 20 (.loc 21 (.locA 22 (.loc 25 (.st 23 2030043136 (.st 26 2013265920 (.last 24 (.last 27 (.loc 28 (.loc 29 (.loc 30 .done)))))))) (.loc 23 (.loc 24 (.loc 25 (.loc 26 (.loc 27 (.loc 28 (.loc 29 (.loc 30 .done))))))))))))))))) (.loc 14 (.loc 15 (.loc 16 (.loc 17 (.loc 18 (.loc 19 (.loc 20 (.loc 21 (.loc 22 (.loc 23 (.loc 24 (.loc 25 (.loc 26 (.loc 27 (.loc 28 (.loc 29 (.loc 30 .done)))))))))))))))))))))))) (.loc 6 (.loc 7 (.loc 9 (.loc 10 (.loc 11 (.loc 12 (.loc 13 (.loc 14 (.loc 15 (.loc 16 (.loc 17 (.loc 18 (.loc 19 (.loc 20 (.loc 21 (.loc 22 (.loc 23 (.loc 24 (.loc 25 (.loc 26 (.loc 27 (.loc 28 (.loc 29 (.loc 30 .done))))))))))))))))))))))))))))))))) (.seq .leaf .leaf)))))))
theorem law18_MsgPuts.eq (m0 : Array Value) (e1 : Array Value) (R : Value → Heap → Prop) (h : Heap) : law18_MsgPuts.body m0 e1 R h = evFn Try.prog Try.f3 law18_MsgPuts.ann [(.agg m0), (.agg e1)] R h := by kernel_rfl
theorem law18_MsgPuts.calls {m0 : Array Value} {e1 : Array Value} {R : Value → Heap → Prop} {h : Heap} (H : law18_MsgPuts.body m0 e1 R h) : HC Try.prog F.law18_MsgPuts #[(.agg m0), (.agg e1)] R h :=
  evFn_sound mixed Try.func3 (by kernel_rfl) (law18_MsgPuts.eq m0 e1 R h ▸ H)

end Go.Proofs.Ytgiopagojidopaa
