import Derived.Test.YtijipdaofojbiaaSig
set_option linter.unusedVariables false
set_option maxRecDepth 100000
namespace Go.Proofs.Ytijipdaofojbiaa
open Go.Ev
/-! slices.Clone[[]byte,byte] -/
def slices_Clone_byte_byte.body (s0 : Sl) (R : Value → Heap → Prop) (h : Heap) : Prop :=
  if s0.a.isNone = true then
  R (.slice none 0 0) h
  else
  newSlK h 0 #[] T.uint8 (fun (v_1 : Sl) (h : Heap) =>
  opK Try.prog .slice (Builtin.append_ #[T.sl_uint8, T.sl_uint8] T.sl_uint8 #[(.slice v_1.a v_1.n v_1.c), (.slice s0.a s0.n s0.c)]) (fun (v_2 : Sl) (h : Heap) =>
  R (.slice v_2.a v_2.n v_2.c) h) h)
def slices_Clone_byte_byte.ann : Ann := (.seq .leaf (.seq (.seq .leaf (.cond (.seq .leaf .leaf) .leaf)) (.seq .leaf .leaf)))
theorem slices_Clone_byte_byte.eq (s0 : Sl) (R : Value → Heap → Prop) (h : Heap) : slices_Clone_byte_byte.body s0 R h = evFn Try.prog Try.f17 slices_Clone_byte_byte.ann [(.slice s0.a s0.n s0.c)] R h := by kernel_rfl
theorem slices_Clone_byte_byte.calls {s0 : Sl} {R : Value → Heap → Prop} {h : Heap} (H : slices_Clone_byte_byte.body s0 R h) : HC Try.prog F.slices_Clone_byte_byte #[(.slice s0.a s0.n s0.c)] R h :=
  evFn_sound mixed Try.func17 (by kernel_rfl) (slices_Clone_byte_byte.eq s0 R h ▸ H)

/-! zugzwang/tags.New -/
def tags_New.body (real0 : Bool) (seed1 : Sl) (R : Value → Heap → Prop) (h : Heap) : Prop :=
  opK Try.prog .map (Instr.makeMap T.map_atags_thing_int none) (fun (v_1 : Option Nat) (h : Heap) =>
  buildK Try.prog (Instr.build T.tags_book #[(0, (.map v_1))]) (fun (v_2 : Array Value) =>
  callK Try.prog .slice F.slices_Clone_byte_byte #[(.slice seed1.a seed1.n seed1.c)] (fun (v_3 : Sl) (h : Heap) =>
  buildK Try.prog (Instr.build T.tags_Maker #[(0, (.agg v_2)), (1, (.bool real0)), (2, (.slice v_3.a v_3.n v_3.c))]) (fun (v_4 : Array Value) =>
  newK h v_4 T.tags_Maker (fun (v_5 : Option Addr) (h : Heap) =>
  R (.pointer v_5) h))) h)) h
def tags_New.ann : Ann := (.seq .leaf (.seq .leaf .leaf))
theorem tags_New.eq (real0 : Bool) (seed1 : Sl) (R : Value → Heap → Prop) (h : Heap) : tags_New.body real0 seed1 R h = evFn Try.prog Try.f7 tags_New.ann [(.bool real0), (.slice seed1.a seed1.n seed1.c)] R h := by kernel_rfl
theorem tags_New.calls {real0 : Bool} {seed1 : Sl} {R : Value → Heap → Prop} {h : Heap} (H : tags_New.body real0 seed1 R h) : HC Try.prog F.tags_New #[(.bool real0), (.slice seed1.a seed1.n seed1.c)] R h :=
  evFn_sound mixed Try.func7 (by kernel_rfl) (tags_New.eq real0 seed1 R h ▸ H)

/-! zugzwang/msg.move$1 -/
def msg_move_1.body (s0 : Int) (R : Value → Heap → Prop) (h : Heap) : Prop :=
  if (decide (s0 ≥ 0)) = true then
  R (.bool (decide (s0 < 64))) h
  else
  R (.bool false) h
def msg_move_1.ann : Ann := (.seq .leaf (.seq .leaf .leaf))
theorem msg_move_1.eq (s0 : Int) (R : Value → Heap → Prop) (h : Heap) : msg_move_1.body s0 R h = evFn Try.prog Try.f75 msg_move_1.ann [(.int .i64 s0)] R h := by kernel_rfl
theorem msg_move_1.calls {s0 : Int} {R : Value → Heap → Prop} {h : Heap} (H : msg_move_1.body s0 R h) : HC Try.prog F.msg_move_1 #[(.int .i64 s0)] R h :=
  evFn_sound mixed Try.func75 (by kernel_rfl) (msg_move_1.eq s0 R h ▸ H)

/-! zugzwang/msg.move -/
def msg_move.body (m0 : Array Value) (R : Value → Heap → Prop) (h : Heap) : Prop :=
  newK h m0 T.api_Move (fun (m_1 : Option Addr) (h : Heap) =>
  fldK m_1 0 (fun (a_2 : Addr) =>
  loadK (.int .i64) h ((some a_2)) (fun (v_3 : Int) =>
  callV Try.prog .bool ((Value.func (.func F.msg_move_1) #[] #[])) #[(.int .i64 v_3)] (fun (v_4 : Bool) (h : Heap) =>
  if v_4 = true then
  fldK m_1 1 (fun (a_5 : Addr) =>
  loadK (.int .i64) h ((some a_5)) (fun (v_6 : Int) =>
  callV Try.prog .bool ((Value.func (.func F.msg_move_1) #[] #[])) #[(.int .i64 v_6)] (fun (v_7 : Bool) (h : Heap) =>
  if v_7 = true then
  fldK m_1 2 (fun (a_8 : Addr) =>
  loadK (.int .i64) h ((some a_8)) (fun (v_9 : Int) =>
  if (v_9 == 0) = true then
  R (.bool true) h
  else
  fldK m_1 2 (fun (a_10 : Addr) =>
  loadK (.int .i64) h ((some a_10)) (fun (v_11 : Int) =>
  if (decide (v_11 ≥ 2)) = true then
  fldK m_1 2 (fun (a_12 : Addr) =>
  loadK (.int .i64) h ((some a_12)) (fun (v_13 : Int) =>
  R (.bool (decide (v_13 ≤ 5))) h))
  else
  R (.bool false) h))))
  else
  R (.bool false) h) h))
  else
  R (.bool false) h) h)))
def msg_move.ann : Ann := (.seq .leaf (.seq .leaf (.seq .leaf .leaf)))
theorem msg_move.eq (m0 : Array Value) (R : Value → Heap → Prop) (h : Heap) : msg_move.body m0 R h = evFn Try.prog Try.f63 msg_move.ann [(.agg m0)] R h := by kernel_rfl
theorem msg_move.calls {m0 : Array Value} {R : Value → Heap → Prop} {h : Heap} (H : msg_move.body m0 R h) : HC Try.prog F.msg_move #[(.agg m0)] R h :=
  evFn_sound mixed Try.func63 (by kernel_rfl) (msg_move.eq m0 R h ▸ H)

/-! zugzwang/msg.named -/
def msg_named.body (b0 : Array Value) (R : Value → Heap → Prop) (h : Heap) : Prop :=
  newK h b0 T.api_Body (fun (b_1 : Option Addr) (h : Heap) =>
  newK h (zerosOf Try.prog T.api_Body) T.api_Body (fun (has_2 : Option Addr) (h : Heap) =>
  fldK b_1 0 (fun (a_3 : Addr) =>
  loadK (.int .i64) h ((some a_3)) (fun (v_4 : Int) =>
  fldK has_2 0 (fun (a_5 : Addr) =>
  storeK h ((some a_5)) (.int .i64 v_4) (fun (h : Heap) =>
  fldK b_1 0 (fun (a_6 : Addr) =>
  loadK (.int .i64) h ((some a_6)) (fun (v_7 : Int) =>
  if (v_7 == 1) = true then
  fldK b_1 1 (fun (a_8 : Addr) =>
  fldK b_1 4 (fun (a_9 : Addr) =>
  fldK b_1 1 (fun (a_10 : Addr) =>
  loadAggK (sizeOfT Try.prog T.api_Move) h ((some a_8)) (fun (v_11 : Array Value) =>
  fldK has_2 1 (fun (a_12 : Addr) =>
  loadK .bool h ((some a_9)) (fun (v_13 : Bool) =>
  loadAggK (sizeOfT Try.prog T.api_Move) h ((some a_10)) (fun (v_14 : Array Value) =>
  callK Try.prog .bool F.msg_move #[(.agg v_14)] (fun (v_15 : Bool) (h : Heap) =>
  stillK .bool h ((some a_9)) v_13 ∧
  stillAggK (sizeOfT Try.prog T.api_Move) h ((some a_8)) v_11 ∧
  storeAggK (sizeOfT Try.prog T.api_Move) h ((some a_12)) v_11 (fun (h : Heap) =>
  stillK .bool h ((some a_9)) v_13 ∧
  fldK has_2 4 (fun (a_16 : Addr) =>
  storeK h ((some a_16)) (.bool v_13) (fun (h : Heap) =>
  loadAggK (sizeOfT Try.prog T.api_Body) h has_2 (fun (v_17 : Array Value) =>
  storeAggK (sizeOfT Try.prog T.api_Body) h has_2 v_17 (fun (h : Heap) =>
  quietK Try.prog .agg (Instr.loadAt T.api_Body (.pointer has_2)) (fun (r_18 : Array Value) =>
  R (.tuple #[(.agg r_18), (.bool v_15)]) h) h)))))) h)))))))
  else
  if (v_7 == 2) = true then
  fldK b_1 5 (fun (a_19 : Addr) =>
  fldK b_1 5 (fun (a_20 : Addr) =>
  loadK (.int .i64) h ((some a_19)) (fun (v_21 : Int) =>
  fldK has_2 5 (fun (a_22 : Addr) =>
  loadK (.int .i64) h ((some a_20)) (fun (v_23 : Int) =>
  if (v_23 == 6) = true then
  storeK h ((some a_22)) (.int .i64 v_21) (fun (h : Heap) =>
  loadAggK (sizeOfT Try.prog T.api_Body) h has_2 (fun (v_24 : Array Value) =>
  storeAggK (sizeOfT Try.prog T.api_Body) h has_2 v_24 (fun (h : Heap) =>
  quietK Try.prog .agg (Instr.loadAt T.api_Body (.pointer has_2)) (fun (r_25 : Array Value) =>
  R (.tuple #[(.agg r_25), (.bool true)]) h) h)))
  else
  fldK b_1 5 (fun (a_26 : Addr) =>
  loadK (.int .i64) h ((some a_26)) (fun (v_27 : Int) =>
  storeK h ((some a_22)) (.int .i64 v_21) (fun (h : Heap) =>
  stillK (.int .i64) h ((some a_26)) v_27 ∧
  loadAggK (sizeOfT Try.prog T.api_Body) h has_2 (fun (v_28 : Array Value) =>
  storeAggK (sizeOfT Try.prog T.api_Body) h has_2 v_28 (fun (h : Heap) =>
  quietK Try.prog .agg (Instr.loadAt T.api_Body (.pointer has_2)) (fun (r_29 : Array Value) =>
  R (.tuple #[(.agg r_29), (.bool (v_27 == 7))]) h) h))))))))))
  else
  if (v_7 == 5) = true then
  fldK b_1 6 (fun (a_30 : Addr) =>
  loadAggK (sizeOfT Try.prog T.api_Tag) h ((some a_30)) (fun (v_31 : Array Value) =>
  fldK has_2 6 (fun (a_32 : Addr) =>
  storeAggK (sizeOfT Try.prog T.api_Tag) h ((some a_32)) v_31 (fun (h : Heap) =>
  loadAggK (sizeOfT Try.prog T.api_Body) h has_2 (fun (v_33 : Array Value) =>
  storeAggK (sizeOfT Try.prog T.api_Body) h has_2 v_33 (fun (h : Heap) =>
  quietK Try.prog .agg (Instr.loadAt T.api_Body (.pointer has_2)) (fun (r_34 : Array Value) =>
  R (.tuple #[(.agg r_34), (.bool true)]) h) h))))))
  else
  if (v_7 == 7) = true then
  fldK b_1 1 (fun (a_35 : Addr) =>
  fldK b_1 38 (fun (a_36 : Addr) =>
  fldK b_1 1 (fun (a_37 : Addr) =>
  loadAggK (sizeOfT Try.prog T.api_Move) h ((some a_35)) (fun (v_38 : Array Value) =>
  fldK has_2 1 (fun (a_39 : Addr) =>
  loadAggK (sizeOfT Try.prog T.api_Tag) h ((some a_36)) (fun (v_40 : Array Value) =>
  loadAggK (sizeOfT Try.prog T.api_Move) h ((some a_37)) (fun (v_41 : Array Value) =>
  callK Try.prog .bool F.msg_move #[(.agg v_41)] (fun (v_42 : Bool) (h : Heap) =>
  stillAggK (sizeOfT Try.prog T.api_Tag) h ((some a_36)) v_40 ∧
  stillAggK (sizeOfT Try.prog T.api_Move) h ((some a_35)) v_38 ∧
  storeAggK (sizeOfT Try.prog T.api_Move) h ((some a_39)) v_38 (fun (h : Heap) =>
  stillAggK (sizeOfT Try.prog T.api_Tag) h ((some a_36)) v_40 ∧
  fldK has_2 38 (fun (a_43 : Addr) =>
  storeAggK (sizeOfT Try.prog T.api_Tag) h ((some a_43)) v_40 (fun (h : Heap) =>
  loadAggK (sizeOfT Try.prog T.api_Body) h has_2 (fun (v_44 : Array Value) =>
  storeAggK (sizeOfT Try.prog T.api_Body) h has_2 v_44 (fun (h : Heap) =>
  quietK Try.prog .agg (Instr.loadAt T.api_Body (.pointer has_2)) (fun (r_45 : Array Value) =>
  R (.tuple #[(.agg r_45), (.bool v_42)]) h) h)))))) h)))))))
  else
  if (v_7 == 3) = true then
  if (v_7 == 3) = true then
  loadAggK (sizeOfT Try.prog T.api_Body) h has_2 (fun (v_46 : Array Value) =>
  storeAggK (sizeOfT Try.prog T.api_Body) h has_2 v_46 (fun (h : Heap) =>
  quietK Try.prog .agg (Instr.loadAt T.api_Body (.pointer has_2)) (fun (r_47 : Array Value) =>
  R (.tuple #[(.agg r_47), (.bool true)]) h) h))
  else
  loadAggK (sizeOfT Try.prog T.api_Body) h has_2 (fun (v_48 : Array Value) =>
  storeAggK (sizeOfT Try.prog T.api_Body) h has_2 v_48 (fun (h : Heap) =>
  quietK Try.prog .agg (Instr.loadAt T.api_Body (.pointer has_2)) (fun (r_49 : Array Value) =>
  R (.tuple #[(.agg r_49), (.bool false)]) h) h))
  else
  if (v_7 == 4) = true then
  if (v_7 == 4) = true then
  loadAggK (sizeOfT Try.prog T.api_Body) h has_2 (fun (v_50 : Array Value) =>
  storeAggK (sizeOfT Try.prog T.api_Body) h has_2 v_50 (fun (h : Heap) =>
  quietK Try.prog .agg (Instr.loadAt T.api_Body (.pointer has_2)) (fun (r_51 : Array Value) =>
  R (.tuple #[(.agg r_51), (.bool true)]) h) h))
  else
  loadAggK (sizeOfT Try.prog T.api_Body) h has_2 (fun (v_52 : Array Value) =>
  storeAggK (sizeOfT Try.prog T.api_Body) h has_2 v_52 (fun (h : Heap) =>
  quietK Try.prog .agg (Instr.loadAt T.api_Body (.pointer has_2)) (fun (r_53 : Array Value) =>
  R (.tuple #[(.agg r_53), (.bool false)]) h) h))
  else
  if (v_7 == 6) = true then
  loadAggK (sizeOfT Try.prog T.api_Body) h has_2 (fun (v_54 : Array Value) =>
  storeAggK (sizeOfT Try.prog T.api_Body) h has_2 v_54 (fun (h : Heap) =>
  quietK Try.prog .agg (Instr.loadAt T.api_Body (.pointer has_2)) (fun (r_55 : Array Value) =>
  R (.tuple #[(.agg r_55), (.bool true)]) h) h))
  else
  loadAggK (sizeOfT Try.prog T.api_Body) h has_2 (fun (v_56 : Array Value) =>
  storeAggK (sizeOfT Try.prog T.api_Body) h has_2 v_56 (fun (h : Heap) =>
  quietK Try.prog .agg (Instr.loadAt T.api_Body (.pointer has_2)) (fun (r_57 : Array Value) =>
  R (.tuple #[(.agg r_57), (.bool false)]) h) h))))))))))
def msg_named.ann : Ann := (.seq .leaf (.seq .leaf (.seq (.seq .leaf (.block (.seq .leaf (.cond (.any (.loc 0 (.loc 2 (.loc 4 (.st 1 3968 (.loc 7 (.st 3 3584 (.st 5 3904 (.last 6 (.last 8 (.loc 9 (.last 10 (.loc 11 .done))))))))))))) (.seq .leaf (.cond (.any (.loc 0 (.loc 2 (.st 1 7168 (.loc 10 (.st 3 7152 (.loc 4 (.loc 5 (.locA 6 (.loc 7 (.loc 8 (.loc 9 (.last 11 (.loc 12 .done))))) (.st 7 4864 (.loc 8 (.loc 9 (.last 11 (.loc 12 .done)))))))))))))) (.seq .leaf (.cond .leaf (.seq .leaf (.cond (.any (.loc 0 (.loc 2 (.loc 4 (.st 1 3968 (.loc 7 (.st 3 3584 (.st 5 3904 (.last 6 (.last 8 (.loc 9 (.last 10 (.loc 11 .done))))))))))))) (.seq (.seq .leaf (.cond .leaf (.seq .leaf (.cond .leaf .leaf)))) (.cond .leaf .leaf)))))))))))) (.seq .leaf .leaf))))
theorem msg_named.eq (b0 : Array Value) (R : Value → Heap → Prop) (h : Heap) : msg_named.body b0 R h = evFn Try.prog Try.f51 msg_named.ann [(.agg b0)] R h := by kernel_rfl
theorem msg_named.calls {b0 : Array Value} {R : Value → Heap → Prop} {h : Heap} (H : msg_named.body b0 R h) : HC Try.prog F.msg_named #[(.agg b0)] R h :=
  evFn_sound mixed Try.func51 (by kernel_rfl) (msg_named.eq b0 R h ▸ H)

/-! zugzwang/msg.Body -/
def msg_Body.body (b0 : Array Value) (R : Value → Heap → Prop) (h : Heap) : Prop :=
  newK h b0 T.api_Body (fun (b_1 : Option Addr) (h : Heap) =>
  loadAggK (sizeOfT Try.prog T.api_Body) h b_1 (fun (v_2 : Array Value) =>
  callK Try.prog (Kd.pair .agg .bool) F.msg_named #[(.agg v_2)] (fun (v_3 : Array Value × Bool) (h : Heap) =>
  newK h (zerosOf Try.prog T.api_Body) T.api_Body (fun (has_4 : Option Addr) (h : Heap) =>
  storeAggK (sizeOfT Try.prog T.api_Body) h has_4 v_3.1 (fun (h : Heap) =>
  if v_3.2 = true then
  loadAggK (sizeOfT Try.prog T.api_Body) h has_4 (fun (v_5 : Array Value) =>
  loadAggK (sizeOfT Try.prog T.api_Body) h b_1 (fun (v_6 : Array Value) =>
  eqK Try.prog (binSem .eql T.api_Body (.tmp 12) (.tmp 13) (.agg v_5) (.agg v_6)) (fun (v_7 : Bool) =>
  R (.bool v_7) h)))
  else
  R (.bool false) h))) h))
def msg_Body.ann : Ann := (.seq .leaf (.seq .leaf (.seq .leaf .leaf)))
theorem msg_Body.eq (b0 : Array Value) (R : Value → Heap → Prop) (h : Heap) : msg_Body.body b0 R h = evFn Try.prog Try.f30 msg_Body.ann [(.agg b0)] R h := by kernel_rfl
theorem msg_Body.calls {b0 : Array Value} {R : Value → Heap → Prop} {h : Heap} (H : msg_Body.body b0 R h) : HC Try.prog F.msg_Body #[(.agg b0)] R h :=
  evFn_sound mixed Try.func30 (by kernel_rfl) (msg_Body.eq b0 R h ▸ H)

/-! (*zugzwang/tags.Maker).there -/
def tags_Maker_there.body (m0 : Option Addr) (R : Value → Heap → Prop) (h : Heap) : Prop :=
  if (!m0.isNone) = true then
  derefK m0 (fun (a_1 : Addr) =>
  fldK ((some a_1)) 0 (fun (a_2 : Addr) =>
  fldK ((some a_2)) 0 (fun (a_3 : Addr) =>
  loadK .map h ((some a_3)) (fun (v_4 : Option Nat) =>
  R (.bool (!v_4.isNone)) h))))
  else
  R (.bool false) h
def tags_Maker_there.ann : Ann := (.seq .leaf (.seq .leaf .leaf))
theorem tags_Maker_there.eq (m0 : Option Addr) (R : Value → Heap → Prop) (h : Heap) : tags_Maker_there.body m0 R h = evFn Try.prog Try.f19 tags_Maker_there.ann [(.pointer m0)] R h := by kernel_rfl
theorem tags_Maker_there.calls {m0 : Option Addr} {R : Value → Heap → Prop} {h : Heap} (H : tags_Maker_there.body m0 R h) : HC Try.prog F.tags_Maker_there #[(.pointer m0)] R h :=
  evFn_sound mixed Try.func19 (by kernel_rfl) (tags_Maker_there.eq m0 R h ▸ H)

/-! maps.Clone[map[zugzwang/tags.thing]int,zugzwang/tags.thing,int] -/
def maps_Clone_map_tags_thing_int_tags_thing_int.body (m0 : Option Nat) (R : Value → Heap → Prop) (h : Heap) : Prop :=
  if m0.isNone = true then
  R (.map none) h
  else
  opK Try.prog .any (Instr.makeInterface T.map_atags_thing_int (.map m0)) (fun (v_1 : Value) (h : Heap) =>
  externK Try.prog .any F.maps_clone #[v_1] (fun (v_2 : Value) (h : Heap) =>
  opK Try.prog .map (Instr.typeAssert v_2 T.interface20 T.map_atags_thing_int false) (fun (v_3 : Option Nat) (h : Heap) =>
  R (.map v_3) h) h) h) h
def maps_Clone_map_tags_thing_int_tags_thing_int.ann : Ann := (.seq .leaf (.seq (.seq .leaf (.cond (.seq .leaf .leaf) .leaf)) (.seq .leaf .leaf)))
theorem maps_Clone_map_tags_thing_int_tags_thing_int.eq (m0 : Option Nat) (R : Value → Heap → Prop) (h : Heap) : maps_Clone_map_tags_thing_int_tags_thing_int.body m0 R h = evFn Try.prog Try.f36 maps_Clone_map_tags_thing_int_tags_thing_int.ann [(.map m0)] R h := by kernel_rfl
theorem maps_Clone_map_tags_thing_int_tags_thing_int.calls {m0 : Option Nat} {R : Value → Heap → Prop} {h : Heap} (H : maps_Clone_map_tags_thing_int_tags_thing_int.body m0 R h) : HC Try.prog F.maps_Clone_map_tags_thing_int_tags_thing_int #[(.map m0)] R h :=
  evFn_sound mixed Try.func36 (by kernel_rfl) (maps_Clone_map_tags_thing_int_tags_thing_int.eq m0 R h ▸ H)

/-! (*zugzwang/tags.Maker).Copy -/
def tags_Maker_Copy.body (m0 : Option Addr) (R : Value → Heap → Prop) (h : Heap) : Prop :=
  callK Try.prog .bool F.tags_Maker_there #[(.pointer m0)] (fun (v_1 : Bool) (h : Heap) =>
  if (!v_1) = true then
  R (.pointer none) h
  else
  derefK m0 (fun (a_2 : Addr) =>
  fldK ((some a_2)) 0 (fun (a_3 : Addr) =>
  fldK ((some a_3)) 0 (fun (a_4 : Addr) =>
  derefK m0 (fun (a_5 : Addr) =>
  fldK ((some a_5)) 1 (fun (a_6 : Addr) =>
  derefK m0 (fun (a_7 : Addr) =>
  fldK ((some a_7)) 2 (fun (a_8 : Addr) =>
  loadK .map h ((some a_4)) (fun (v_9 : Option Nat) =>
  loadK .bool h ((some a_6)) (fun (v_10 : Bool) =>
  loadK .slice h ((some a_8)) (fun (v_11 : Sl) =>
  callK Try.prog .map F.maps_Clone_map_tags_thing_int_tags_thing_int #[(.map v_9)] (fun (v_12 : Option Nat) (h : Heap) =>
  stillK .slice h ((some a_8)) v_11 ∧
  stillK .bool h ((some a_6)) v_10 ∧
  buildK Try.prog (Instr.build T.tags_book #[(0, (.map v_12))]) (fun (v_13 : Array Value) =>
  callK Try.prog .slice F.slices_Clone_byte_byte #[(.slice v_11.a v_11.n v_11.c)] (fun (v_14 : Sl) (h : Heap) =>
  stillK .bool h ((some a_6)) v_10 ∧
  buildK Try.prog (Instr.build T.tags_Maker #[(0, (.agg v_13)), (1, (.bool v_10)), (2, (.slice v_14.a v_14.n v_14.c))]) (fun (v_15 : Array Value) =>
  newK h v_15 T.tags_Maker (fun (v_16 : Option Addr) (h : Heap) =>
  R (.pointer v_16) h))) h)) h))))))))))) h
def tags_Maker_Copy.ann : Ann := (.seq .leaf (.seq (.seq .leaf (.cond (.seq .leaf .leaf) .leaf)) (.seq (.any (.loc 0 (.loc 1 (.loc 2 (.loc 3 (.loc 7 (.loc 8 (.loc 9 (.loc 11 (.loc 12 (.loc 13 (.st 4 491616 (.st 10 458752 (.st 14 491520 (.last 5 (.loc 6 (.last 15 (.loc 16 (.last 17 (.loc 18 .done)))))))))))))))))))) .leaf)))
theorem tags_Maker_Copy.eq (m0 : Option Addr) (R : Value → Heap → Prop) (h : Heap) : tags_Maker_Copy.body m0 R h = evFn Try.prog Try.f23 tags_Maker_Copy.ann [(.pointer m0)] R h := by kernel_rfl
theorem tags_Maker_Copy.calls {m0 : Option Addr} {R : Value → Heap → Prop} {h : Heap} (H : tags_Maker_Copy.body m0 R h) : HC Try.prog F.tags_Maker_Copy #[(.pointer m0)] R h :=
  evFn_sound mixed Try.func23 (by kernel_rfl) (tags_Maker_Copy.eq m0 R h ▸ H)

/-! zugzwang/digest.begun -/
def digest_begun.body  (R : Value → Heap → Prop) (h : Heap) : Prop :=
  newK h (zerosOf Try.prog T.digest_state) T.digest_state (fun (v_1 : Option Addr) (h : Heap) =>
  buildK Try.prog (Instr.build T.digest_state #[(0, (.int .u32 1779033703)), (1, (.int .u32 3144134277)), (2, (.int .u32 1013904242)), (3, (.int .u32 2773480762)), (4, (.int .u32 1359893119)), (5, (.int .u32 2600822924)), (6, (.int .u32 528734635)), (7, (.int .u32 1541459225))]) (fun (v_2 : Array Value) =>
  storeAggK (sizeOfT Try.prog T.digest_state) h v_1 v_2 (fun (h : Heap) =>
  quietK Try.prog .agg (Instr.loadAt T.digest_state (.pointer v_1)) (fun (r_3 : Array Value) =>
  R (.agg r_3) h) h)))
def digest_begun.ann : Ann := (.seq .leaf (.seq .leaf .leaf))
theorem digest_begun.eq  (R : Value → Heap → Prop) (h : Heap) : digest_begun.body  R h = evFn Try.prog Try.f53 digest_begun.ann [] R h := by kernel_rfl
theorem digest_begun.calls  {R : Value → Heap → Prop} {h : Heap} (H : digest_begun.body  R h) : HC Try.prog F.digest_begun #[] R h :=
  evFn_sound mixed Try.func53 (by kernel_rfl) (digest_begun.eq  R h ▸ H)

/-! zugzwang/digest.New -/
def digest_New.body  (R : Value → Heap → Prop) (h : Heap) : Prop :=
  callK Try.prog .agg F.digest_begun #[] (fun (v_1 : Array Value) (h : Heap) =>
  buildK Try.prog (Instr.build T.digest_Hasher #[(0, (.agg v_1)), (3, (.bool true))]) (fun (v_2 : Array Value) =>
  newK h v_2 T.digest_Hasher (fun (v_3 : Option Addr) (h : Heap) =>
  R (.pointer v_3) h))) h
def digest_New.ann : Ann := (.seq .leaf (.seq .leaf .leaf))
theorem digest_New.eq  (R : Value → Heap → Prop) (h : Heap) : digest_New.body  R h = evFn Try.prog Try.f32 digest_New.ann [] R h := by kernel_rfl
theorem digest_New.calls  {R : Value → Heap → Prop} {h : Heap} (H : digest_New.body  R h) : HC Try.prog F.digest_New #[] R h :=
  evFn_sound mixed Try.func32 (by kernel_rfl) (digest_New.eq  R h ▸ H)

/-! (*zugzwang/bits.row).take -/
def bits_row_take.body (r0 : Option Addr) (R : Value → Heap → Prop) (h : Heap) : Prop :=
  derefK r0 (fun (a_1 : Addr) =>
  fldK ((some a_1)) 0 (fun (a_2 : Addr) =>
  loadK .slice h ((some a_2)) (fun (v_3 : Sl) =>
  idxK v_3 0 (sizeOfT Try.prog T.uint8) (fun (a_4 : Addr) =>
  loadK (.int .u8) h ((some a_4)) (fun (v_5 : Int) =>
  shiftK 24
  (derefK r0 (fun (a_6 : Addr) =>
  fldK ((some a_6)) 0 (fun (a_7 : Addr) =>
  loadK .slice h ((some a_7)) (fun (v_8 : Sl) =>
  idxK v_8 1 (sizeOfT Try.prog T.uint8) (fun (a_9 : Addr) =>
  loadK (.int .u8) h ((some a_9)) (fun (v_10 : Int) =>
  shiftK 16
  (derefK r0 (fun (a_11 : Addr) =>
  fldK ((some a_11)) 0 (fun (a_12 : Addr) =>
  loadK .slice h ((some a_12)) (fun (v_13 : Sl) =>
  idxK v_13 2 (sizeOfT Try.prog T.uint8) (fun (a_14 : Addr) =>
  loadK (.int .u8) h ((some a_14)) (fun (v_15 : Int) =>
  shiftK 8
  (derefK r0 (fun (a_16 : Addr) =>
  fldK ((some a_16)) 0 (fun (a_17 : Addr) =>
  loadK .slice h ((some a_17)) (fun (v_18 : Sl) =>
  idxK v_18 3 (sizeOfT Try.prog T.uint8) (fun (a_19 : Addr) =>
  loadK (.int .u8) h ((some a_19)) (fun (v_20 : Int) =>
  derefK r0 (fun (a_21 : Addr) =>
  fldK ((some a_21)) 0 (fun (a_22 : Addr) =>
  loadK .slice h ((some a_22)) (fun (v_23 : Sl) =>
  sliceK v_23 (some 4) none none (sizeOfT Try.prog T.uint8) (fun (v_24 : Sl) =>
  derefK r0 (fun (a_25 : Addr) =>
  fldK ((some a_25)) 0 (fun (a_26 : Addr) =>
  storeK h ((some a_26)) (.slice v_24.a v_24.n v_24.c) (fun (h : Heap) =>
  R (.int .u32 (IntKind.u32.wrap (BitVec.ofInt (IntKind.bits .u32) (IntKind.u32.wrap (BitVec.ofInt (IntKind.bits .u32) (IntKind.u32.wrap (BitVec.ofInt (IntKind.bits .u32) (IntKind.u32.wrap ((IntKind.u32.wrap v_5) * 2 ^ min (Int.toNat 24) (IntKind.bits .u32))) ||| BitVec.ofInt (IntKind.bits .u32) (IntKind.u32.wrap ((IntKind.u32.wrap v_10) * 2 ^ min (Int.toNat 16) (IntKind.bits .u32)))).toNat) ||| BitVec.ofInt (IntKind.bits .u32) (IntKind.u32.wrap ((IntKind.u32.wrap v_15) * 2 ^ min (Int.toNat 8) (IntKind.bits .u32)))).toNat) ||| BitVec.ofInt (IntKind.bits .u32) (IntKind.u32.wrap v_20)).toNat)) h))))))))))))))))))))))))))))))
def bits_row_take.ann : Ann := (.seq .leaf (.seq .leaf (.seq .leaf (.seq .leaf .leaf))))
theorem bits_row_take.eq (r0 : Option Addr) (R : Value → Heap → Prop) (h : Heap) : bits_row_take.body r0 R h = evFn Try.prog Try.f79 bits_row_take.ann [(.pointer r0)] R h := by kernel_rfl
theorem bits_row_take.calls {r0 : Option Addr} {R : Value → Heap → Prop} {h : Heap} (H : bits_row_take.body r0 R h) : HC Try.prog F.bits_row_take #[(.pointer r0)] R h :=
  evFn_sound mixed Try.func79 (by kernel_rfl) (bits_row_take.eq r0 R h ▸ H)

/-! zugzwang/bits.Words -/
def bits_Words.body (b0 : Sl) (R : Value → Heap → Prop) (h : Heap) : Prop :=
  divK 4
  (if ((Int.tmod ((b0.n : Int)) 4) != 0) = true then
  R (.tuple #[(.slice none 0 0), (.int .i64 4)]) h
  else
  callK Try.prog .slice F.slices_Clone_byte_byte #[(.slice b0.a b0.n b0.c)] (fun (v_1 : Sl) (h : Heap) =>
  buildK Try.prog (Instr.build T.bits_row #[(0, (.slice v_1.a v_1.n v_1.c))]) (fun (v_2 : Array Value) =>
  buildK Try.prog (Instr.build T.bits_reader #[(0, (.agg v_2))]) (fun (v_3 : Array Value) =>
  newK h (zerosOf Try.prog T.bits_reader) T.bits_reader (fun (r_4 : Option Addr) (h : Heap) =>
  storeAggK (sizeOfT Try.prog T.bits_reader) h r_4 v_3 (fun (h : Heap) =>
  divK 4
  (loopW (fun X_6 (s_5 : Int) (h : Heap) =>
  if (decide (s_5 < (IntKind.i64.wrap (Int.tdiv ((b0.n : Int)) 4)))) = true then
  fldK r_4 1 (fun (a_7 : Addr) =>
  fldK r_4 0 (fun (a_8 : Addr) =>
  loadK .slice h ((some a_7)) (fun (v_9 : Sl) =>
  callK Try.prog (.int .u32) F.bits_row_take #[(.pointer ((some a_8)))] (fun (v_10 : Int) (h : Heap) =>
  stillK .slice h ((some a_7)) v_9 ∧
  newSlK h 1 #[(.int .u32 v_10)] T.uint32 (fun (v_11 : Sl) (h : Heap) =>
  opK Try.prog .slice (Builtin.append_ #[T.sl_uint32, T.sl_uint32] T.sl_uint32 #[(.slice v_9.a v_9.n v_9.c), (.slice v_11.a v_11.n v_11.c)]) (fun (v_12 : Sl) (h : Heap) =>
  fldK r_4 1 (fun (a_13 : Addr) =>
  storeK h ((some a_13)) (.slice v_12.a v_12.n v_12.c) (fun (h : Heap) =>
  X_6 (IntKind.i64.wrap (s_5 + 1)) h))) h)) h)))
  else
  fldK r_4 1 (fun (a_14 : Addr) =>
  loadK .slice h ((some a_14)) (fun (v_15 : Sl) =>
  R (.tuple #[(.slice v_15.a v_15.n v_15.c), (.int .i64 0)]) h))) 0 h)))))) h)
def bits_Words.ann : Ann := (.seq .leaf (.seq (.seq .leaf (.cond (.seq .leaf .leaf) .leaf)) (.seq .leaf (.seq (.seq .leaf (.block (.loop [(16, (.int .i64))] (.seq .leaf (.seq (.cond .leaf .leaf) (.seq (.block (.any (.loc 0 (.loc 2 (.st 1 224 (.last 3 (.last 4 (.last 5 (.loc 6 (.last 7 .done)))))))))) .leaf)))))) (.seq .leaf .leaf)))))
theorem bits_Words.eq (b0 : Sl) (R : Value → Heap → Prop) (h : Heap) : bits_Words.body b0 R h = evFn Try.prog Try.f66 bits_Words.ann [(.slice b0.a b0.n b0.c)] R h := by kernel_rfl
theorem bits_Words.calls {b0 : Sl} {R : Value → Heap → Prop} {h : Heap} (H : bits_Words.body b0 R h) : HC Try.prog F.bits_Words #[(.slice b0.a b0.n b0.c)] R h :=
  evFn_sound mixed Try.func66 (by kernel_rfl) (bits_Words.eq b0 R h ▸ H)

/-! math/bits.RotateLeft32 -/
def math_bits_RotateLeft32.body (x0 : Int) (k1 : Int) (R : Value → Heap → Prop) (h : Heap) : Prop :=
  shiftK (IntKind.u64.wrap (BitVec.ofInt (IntKind.bits .u64) (IntKind.u64.wrap k1) &&& BitVec.ofInt (IntKind.bits .u64) 31).toNat)
  (shiftK (IntKind.u64.wrap (32 - (IntKind.u64.wrap (BitVec.ofInt (IntKind.bits .u64) (IntKind.u64.wrap k1) &&& BitVec.ofInt (IntKind.bits .u64) 31).toNat)))
  (R (.int .u32 (IntKind.u32.wrap (BitVec.ofInt (IntKind.bits .u32) (IntKind.u32.wrap (x0 * 2 ^ min (Int.toNat (IntKind.u64.wrap (BitVec.ofInt (IntKind.bits .u64) (IntKind.u64.wrap k1) &&& BitVec.ofInt (IntKind.bits .u64) 31).toNat)) (IntKind.bits .u32))) ||| BitVec.ofInt (IntKind.bits .u32) (Int.fdiv x0 (2 ^ min (Int.toNat (IntKind.u64.wrap (32 - (IntKind.u64.wrap (BitVec.ofInt (IntKind.bits .u64) (IntKind.u64.wrap k1) &&& BitVec.ofInt (IntKind.bits .u64) 31).toNat)))) (IntKind.bits .u32)))).toNat)) h))
def math_bits_RotateLeft32.ann : Ann := (.seq .leaf (.seq .leaf (.seq .leaf .leaf)))
theorem math_bits_RotateLeft32.eq (x0 : Int) (k1 : Int) (R : Value → Heap → Prop) (h : Heap) : math_bits_RotateLeft32.body x0 k1 R h = evFn Try.prog Try.f88 math_bits_RotateLeft32.ann [(.int .u32 x0), (.int .i64 k1)] R h := by kernel_rfl
theorem math_bits_RotateLeft32.calls {x0 : Int} {k1 : Int} {R : Value → Heap → Prop} {h : Heap} (H : math_bits_RotateLeft32.body x0 k1 R h) : HC Try.prog F.math_bits_RotateLeft32 #[(.int .u32 x0), (.int .i64 k1)] R h :=
  evFn_sound mixed Try.func88 (by kernel_rfl) (math_bits_RotateLeft32.eq x0 k1 R h ▸ H)

/-! zugzwang/bits.Turn -/
def bits_Turn.body (x0 : Int) (n1 : Int) (R : Value → Heap → Prop) (h : Heap) : Prop :=
  divK 32
  (callK Try.prog (.int .u32) F.math_bits_RotateLeft32 #[(.int .u32 x0), (.int .i64 (IntKind.i64.wrap (0 - (Int.tmod n1 32))))] (fun (v_1 : Int) (h : Heap) =>
  R (.int .u32 v_1) h) h)
def bits_Turn.ann : Ann := (.seq .leaf (.seq .leaf .leaf))
theorem bits_Turn.eq (x0 : Int) (n1 : Int) (R : Value → Heap → Prop) (h : Heap) : bits_Turn.body x0 n1 R h = evFn Try.prog Try.f80 bits_Turn.ann [(.int .u32 x0), (.int .i64 n1)] R h := by kernel_rfl
theorem bits_Turn.calls {x0 : Int} {n1 : Int} {R : Value → Heap → Prop} {h : Heap} (H : bits_Turn.body x0 n1 R h) : HC Try.prog F.bits_Turn #[(.int .u32 x0), (.int .i64 n1)] R h :=
  evFn_sound mixed Try.func80 (by kernel_rfl) (bits_Turn.eq x0 n1 R h ▸ H)

/-! zugzwang/bits.Mix -/
def bits_Mix.body (x0 : Int) (turns1 : Sl) (R : Value → Heap → Prop) (h : Heap) : Prop :=
  loopW (fun X_2 (s_1 : Int × Int) (h : Heap) =>
  if (decide (s_1.2 < ((turns1.n : Int)))) = true then
  idxK turns1 s_1.2 (sizeOfT Try.prog T.int) (fun (a_3 : Addr) =>
  loadK (.int .i64) h ((some a_3)) (fun (v_4 : Int) =>
  callK Try.prog (.int .u32) F.bits_Turn #[(.int .u32 x0), (.int .i64 v_4)] (fun (v_5 : Int) (h : Heap) =>
  X_2 (IntKind.u32.wrap (BitVec.ofInt (IntKind.bits .u32) s_1.1 ^^^ BitVec.ofInt (IntKind.bits .u32) v_5).toNat, IntKind.i64.wrap (s_1.2 + 1)) h) h))
  else
  R (.int .u32 s_1.1) h) (0, 0) h
def bits_Mix.ann : Ann := (.seq .leaf (.seq (.seq .leaf (.block (.loop [(4, (.int .u32)), (9, (.int .i64))] (.seq .leaf (.seq (.cond .leaf .leaf) (.seq (.block (.seq .leaf .leaf)) .leaf)))))) (.seq .leaf .leaf)))
theorem bits_Mix.eq (x0 : Int) (turns1 : Sl) (R : Value → Heap → Prop) (h : Heap) : bits_Mix.body x0 turns1 R h = evFn Try.prog Try.f67 bits_Mix.ann [(.int .u32 x0), (.slice turns1.a turns1.n turns1.c)] R h := by kernel_rfl
theorem bits_Mix.calls {x0 : Int} {turns1 : Sl} {R : Value → Heap → Prop} {h : Heap} (H : bits_Mix.body x0 turns1 R h) : HC Try.prog F.bits_Mix #[(.int .u32 x0), (.slice turns1.a turns1.n turns1.c)] R h :=
  evFn_sound mixed Try.func67 (by kernel_rfl) (bits_Mix.eq x0 turns1 R h ▸ H)

/-! zugzwang/bits.Shift -/
def bits_Shift.body (x0 : Int) (n1 : Int) (R : Value → Heap → Prop) (h : Heap) : Prop :=
  shiftK (if n1 < 0 then 0 else n1)
  (R (.int .u32 (Int.fdiv x0 (2 ^ min (Int.toNat (if n1 < 0 then 0 else n1)) (IntKind.bits .u32)))) h)
def bits_Shift.ann : Ann := (.seq .leaf (.seq .leaf .leaf))
theorem bits_Shift.eq (x0 : Int) (n1 : Int) (R : Value → Heap → Prop) (h : Heap) : bits_Shift.body x0 n1 R h = evFn Try.prog Try.f68 bits_Shift.ann [(.int .u32 x0), (.int .i64 n1)] R h := by kernel_rfl
theorem bits_Shift.calls {x0 : Int} {n1 : Int} {R : Value → Heap → Prop} {h : Heap} (H : bits_Shift.body x0 n1 R h) : HC Try.prog F.bits_Shift #[(.int .u32 x0), (.int .i64 n1)] R h :=
  evFn_sound mixed Try.func68 (by kernel_rfl) (bits_Shift.eq x0 n1 R h ▸ H)

/-! zugzwang/bits.Sum -/
def bits_Sum.body (words0 : Sl) (R : Value → Heap → Prop) (h : Heap) : Prop :=
  loopW (fun X_2 (s_1 : Int × Int) (h : Heap) =>
  if (decide (s_1.2 < ((words0.n : Int)))) = true then
  idxK words0 s_1.2 (sizeOfT Try.prog T.uint32) (fun (a_3 : Addr) =>
  loadK (.int .u32) h ((some a_3)) (fun (v_4 : Int) =>
  X_2 (IntKind.u32.wrap (s_1.1 + v_4), IntKind.i64.wrap (s_1.2 + 1)) h))
  else
  R (.int .u32 s_1.1) h) (0, 0) h
def bits_Sum.ann : Ann := (.seq .leaf (.seq (.seq .leaf (.block (.loop [(2, (.int .u32)), (7, (.int .i64))] (.seq .leaf (.seq (.cond .leaf .leaf) (.seq (.block (.seq .leaf .leaf)) .leaf)))))) (.seq .leaf .leaf)))
theorem bits_Sum.eq (words0 : Sl) (R : Value → Heap → Prop) (h : Heap) : bits_Sum.body words0 R h = evFn Try.prog Try.f69 bits_Sum.ann [(.slice words0.a words0.n words0.c)] R h := by kernel_rfl
theorem bits_Sum.calls {words0 : Sl} {R : Value → Heap → Prop} {h : Heap} (H : bits_Sum.body words0 R h) : HC Try.prog F.bits_Sum #[(.slice words0.a words0.n words0.c)] R h :=
  evFn_sound mixed Try.func69 (by kernel_rfl) (bits_Sum.eq words0 R h ▸ H)

/-! zugzwang/digest.constants -/
def digest_constants.body  (R : Value → Heap → Prop) (h : Heap) : Prop :=
  newK h (zerosOf Try.prog T.a64_uint32) T.a64_uint32 (fun (v_1 : Option Addr) (h : Heap) =>
  buildK Try.prog (Instr.build T.a64_uint32 #[(0, (.int .u32 1116352408)), (1, (.int .u32 1899447441)), (2, (.int .u32 3049323471)), (3, (.int .u32 3921009573)), (4, (.int .u32 961987163)), (5, (.int .u32 1508970993)), (6, (.int .u32 2453635748)), (7, (.int .u32 2870763221)), (8, (.int .u32 3624381080)), (9, (.int .u32 310598401)), (10, (.int .u32 607225278)), (11, (.int .u32 1426881987)), (12, (.int .u32 1925078388)), (13, (.int .u32 2162078206)), (14, (.int .u32 2614888103)), (15, (.int .u32 3248222580)), (16, (.int .u32 3835390401)), (17, (.int .u32 4022224774)), (18, (.int .u32 264347078)), (19, (.int .u32 604807628)), (20, (.int .u32 770255983)), (21, (.int .u32 1249150122)), (22, (.int .u32 1555081692)), (23, (.int .u32 1996064986)), (24, (.int .u32 2554220882)), (25, (.int .u32 2821834349)), (26, (.int .u32 2952996808)), (27, (.int .u32 3210313671)), (28, (.int .u32 3336571891)), (29, (.int .u32 3584528711)), (30, (.int .u32 113926993)), (31, (.int .u32 338241895)), (32, (.int .u32 666307205)), (33, (.int .u32 773529912)), (34, (.int .u32 1294757372)), (35, (.int .u32 1396182291)), (36, (.int .u32 1695183700)), (37, (.int .u32 1986661051)), (38, (.int .u32 2177026350)), (39, (.int .u32 2456956037)), (40, (.int .u32 2730485921)), (41, (.int .u32 2820302411)), (42, (.int .u32 3259730800)), (43, (.int .u32 3345764771)), (44, (.int .u32 3516065817)), (45, (.int .u32 3600352804)), (46, (.int .u32 4094571909)), (47, (.int .u32 275423344)), (48, (.int .u32 430227734)), (49, (.int .u32 506948616)), (50, (.int .u32 659060556)), (51, (.int .u32 883997877)), (52, (.int .u32 958139571)), (53, (.int .u32 1322822218)), (54, (.int .u32 1537002063)), (55, (.int .u32 1747873779)), (56, (.int .u32 1955562222)), (57, (.int .u32 2024104815)), (58, (.int .u32 2227730452)), (59, (.int .u32 2361852424)), (60, (.int .u32 2428436474)), (61, (.int .u32 2756734187)), (62, (.int .u32 3204031479)), (63, (.int .u32 3329325298))]) (fun (v_2 : Array Value) =>
  storeAggK (sizeOfT Try.prog T.a64_uint32) h v_1 v_2 (fun (h : Heap) =>
  quietK Try.prog .agg (Instr.loadAt T.a64_uint32 (.pointer v_1)) (fun (r_3 : Array Value) =>
  R (.agg r_3) h) h)))
def digest_constants.ann : Ann := (.seq .leaf (.seq .leaf .leaf))
theorem digest_constants.eq  (R : Value → Heap → Prop) (h : Heap) : digest_constants.body  R h = evFn Try.prog Try.f70 digest_constants.ann [] R h := by kernel_rfl
theorem digest_constants.calls  {R : Value → Heap → Prop} {h : Heap} (H : digest_constants.body  R h) : HC Try.prog F.digest_constants #[] R h :=
  evFn_sound mixed Try.func70 (by kernel_rfl) (digest_constants.eq  R h ▸ H)

/-! zugzwang/bits.Choose -/
def bits_Choose.body (x0 : Int) (a1 : Int) (b2 : Int) (R : Value → Heap → Prop) (h : Heap) : Prop :=
  R (.int .u32 (IntKind.u32.wrap (BitVec.ofInt (IntKind.bits .u32) b2 ^^^ BitVec.ofInt (IntKind.bits .u32) (IntKind.u32.wrap (BitVec.ofInt (IntKind.bits .u32) x0 &&& BitVec.ofInt (IntKind.bits .u32) (IntKind.u32.wrap (BitVec.ofInt (IntKind.bits .u32) a1 ^^^ BitVec.ofInt (IntKind.bits .u32) b2).toNat)).toNat)).toNat)) h
def bits_Choose.ann : Ann := (.seq .leaf (.seq .leaf .leaf))
theorem bits_Choose.eq (x0 : Int) (a1 : Int) (b2 : Int) (R : Value → Heap → Prop) (h : Heap) : bits_Choose.body x0 a1 b2 R h = evFn Try.prog Try.f81 bits_Choose.ann [(.int .u32 x0), (.int .u32 a1), (.int .u32 b2)] R h := by kernel_rfl
theorem bits_Choose.calls {x0 : Int} {a1 : Int} {b2 : Int} {R : Value → Heap → Prop} {h : Heap} (H : bits_Choose.body x0 a1 b2 R h) : HC Try.prog F.bits_Choose #[(.int .u32 x0), (.int .u32 a1), (.int .u32 b2)] R h :=
  evFn_sound mixed Try.func81 (by kernel_rfl) (bits_Choose.eq x0 a1 b2 R h ▸ H)

/-! (*zugzwang/digest.state).step -/
def digest_state_step.body (s0 : Option Addr) (w1 : Int) (k2 : Int) (R : Value → Heap → Prop) (h : Heap) : Prop :=
  derefK s0 (fun (a_1 : Addr) =>
  idxArrK ((some a_1)) 8 7 (sizeOfT Try.prog T.uint32) (fun (a_2 : Addr) =>
  derefK s0 (fun (a_3 : Addr) =>
  idxArrK ((some a_3)) 8 4 (sizeOfT Try.prog T.uint32) (fun (a_4 : Addr) =>
  derefK s0 (fun (a_5 : Addr) =>
  idxArrK ((some a_5)) 8 4 (sizeOfT Try.prog T.uint32) (fun (a_6 : Addr) =>
  derefK s0 (fun (a_7 : Addr) =>
  idxArrK ((some a_7)) 8 5 (sizeOfT Try.prog T.uint32) (fun (a_8 : Addr) =>
  derefK s0 (fun (a_9 : Addr) =>
  idxArrK ((some a_9)) 8 6 (sizeOfT Try.prog T.uint32) (fun (a_10 : Addr) =>
  loadK (.int .u32) h ((some a_2)) (fun (v_11 : Int) =>
  loadK (.int .u32) h ((some a_4)) (fun (v_12 : Int) =>
  loadK (.int .u32) h ((some a_6)) (fun (v_13 : Int) =>
  loadK (.int .u32) h ((some a_8)) (fun (v_14 : Int) =>
  loadK (.int .u32) h ((some a_10)) (fun (v_15 : Int) =>
  newSlK h 3 #[(.int .i64 6), (.int .i64 11), (.int .i64 25)] T.int (fun (v_16 : Sl) (h : Heap) =>
  callK Try.prog (.int .u32) F.bits_Mix #[(.int .u32 v_12), (.slice v_16.a v_16.n v_16.c)] (fun (v_17 : Int) (h : Heap) =>
  stillK (.int .u32) h ((some a_10)) v_15 ∧
  stillK (.int .u32) h ((some a_8)) v_14 ∧
  stillK (.int .u32) h ((some a_6)) v_13 ∧
  stillK (.int .u32) h ((some a_2)) v_11 ∧
  callK Try.prog (.int .u32) F.bits_Choose #[(.int .u32 v_13), (.int .u32 v_14), (.int .u32 v_15)] (fun (v_18 : Int) (h : Heap) =>
  stillK (.int .u32) h ((some a_2)) v_11 ∧
  newSlK h 5 #[(.int .u32 v_11), (.int .u32 v_17), (.int .u32 v_18), (.int .u32 k2), (.int .u32 w1)] T.uint32 (fun (v_19 : Sl) (h : Heap) =>
  callK Try.prog (.int .u32) F.bits_Sum #[(.slice v_19.a v_19.n v_19.c)] (fun (v_20 : Int) (h : Heap) =>
  derefK s0 (fun (a_21 : Addr) =>
  idxArrK ((some a_21)) 8 0 (sizeOfT Try.prog T.uint32) (fun (a_22 : Addr) =>
  derefK s0 (fun (a_23 : Addr) =>
  idxArrK ((some a_23)) 8 0 (sizeOfT Try.prog T.uint32) (fun (a_24 : Addr) =>
  derefK s0 (fun (a_25 : Addr) =>
  idxArrK ((some a_25)) 8 1 (sizeOfT Try.prog T.uint32) (fun (a_26 : Addr) =>
  derefK s0 (fun (a_27 : Addr) =>
  idxArrK ((some a_27)) 8 0 (sizeOfT Try.prog T.uint32) (fun (a_28 : Addr) =>
  derefK s0 (fun (a_29 : Addr) =>
  idxArrK ((some a_29)) 8 2 (sizeOfT Try.prog T.uint32) (fun (a_30 : Addr) =>
  derefK s0 (fun (a_31 : Addr) =>
  idxArrK ((some a_31)) 8 1 (sizeOfT Try.prog T.uint32) (fun (a_32 : Addr) =>
  derefK s0 (fun (a_33 : Addr) =>
  idxArrK ((some a_33)) 8 2 (sizeOfT Try.prog T.uint32) (fun (a_34 : Addr) =>
  loadK (.int .u32) h ((some a_22)) (fun (v_35 : Int) =>
  loadK (.int .u32) h ((some a_24)) (fun (v_36 : Int) =>
  loadK (.int .u32) h ((some a_26)) (fun (v_37 : Int) =>
  loadK (.int .u32) h ((some a_28)) (fun (v_38 : Int) =>
  loadK (.int .u32) h ((some a_30)) (fun (v_39 : Int) =>
  loadK (.int .u32) h ((some a_32)) (fun (v_40 : Int) =>
  loadK (.int .u32) h ((some a_34)) (fun (v_41 : Int) =>
  newSlK h 3 #[(.int .i64 2), (.int .i64 13), (.int .i64 22)] T.int (fun (v_42 : Sl) (h : Heap) =>
  callK Try.prog (.int .u32) F.bits_Mix #[(.int .u32 v_35), (.slice v_42.a v_42.n v_42.c)] (fun (v_43 : Int) (h : Heap) =>
  stillK (.int .u32) h ((some a_34)) v_41 ∧
  stillK (.int .u32) h ((some a_32)) v_40 ∧
  stillK (.int .u32) h ((some a_30)) v_39 ∧
  stillK (.int .u32) h ((some a_28)) v_38 ∧
  stillK (.int .u32) h ((some a_26)) v_37 ∧
  stillK (.int .u32) h ((some a_24)) v_36 ∧
  newSlK h 2 #[(.int .u32 v_43), (.int .u32 (IntKind.u32.wrap (BitVec.ofInt (IntKind.bits .u32) (IntKind.u32.wrap (BitVec.ofInt (IntKind.bits .u32) (IntKind.u32.wrap (BitVec.ofInt (IntKind.bits .u32) v_36 &&& BitVec.ofInt (IntKind.bits .u32) v_37).toNat) ||| BitVec.ofInt (IntKind.bits .u32) (IntKind.u32.wrap (BitVec.ofInt (IntKind.bits .u32) v_38 &&& BitVec.ofInt (IntKind.bits .u32) v_39).toNat)).toNat) ||| BitVec.ofInt (IntKind.bits .u32) (IntKind.u32.wrap (BitVec.ofInt (IntKind.bits .u32) v_40 &&& BitVec.ofInt (IntKind.bits .u32) v_41).toNat)).toNat))] T.uint32 (fun (v_44 : Sl) (h : Heap) =>
  callK Try.prog (.int .u32) F.bits_Sum #[(.slice v_44.a v_44.n v_44.c)] (fun (v_45 : Int) (h : Heap) =>
  derefK s0 (fun (a_46 : Addr) =>
  sliceArrK ((some a_46)) 8 (some 1) none none (sizeOfT Try.prog T.uint32) (fun (v_47 : Sl) =>
  derefK s0 (fun (a_48 : Addr) =>
  sliceArrK ((some a_48)) 8 none (some 7) none (sizeOfT Try.prog T.uint32) (fun (v_49 : Sl) =>
  opK Try.prog (.int .i64) (Builtin.copy_ #[T.sl_uint32, T.sl_uint32] T.int #[(.slice v_47.a v_47.n v_47.c), (.slice v_49.a v_49.n v_49.c)]) (fun (v_50 : Int) (h : Heap) =>
  derefK s0 (fun (a_51 : Addr) =>
  idxArrK ((some a_51)) 8 4 (sizeOfT Try.prog T.uint32) (fun (a_52 : Addr) =>
  derefK s0 (fun (a_53 : Addr) =>
  loadK (.int .u32) h ((some a_52)) (fun (v_54 : Int) =>
  idxArrK ((some a_53)) 8 4 (sizeOfT Try.prog T.uint32) (fun (a_55 : Addr) =>
  storeK h ((some a_55)) (.int .u32 (IntKind.u32.wrap (v_54 + v_20))) (fun (h : Heap) =>
  derefK s0 (fun (a_56 : Addr) =>
  idxArrK ((some a_56)) 8 0 (sizeOfT Try.prog T.uint32) (fun (a_57 : Addr) =>
  storeK h ((some a_57)) (.int .u32 (IntKind.u32.wrap (v_20 + v_45))) (fun (h : Heap) =>
  R (.tuple #[]) h)))))))))) h))))) h)) h))))))))))))))))))))))) h)) h) h))))))))))))))))
def digest_state_step.ann : Ann := (.seq (.any (.loc 0 (.loc 1 (.loc 2 (.loc 4 (.loc 5 (.loc 6 (.loc 10 (.loc 11 (.loc 12 (.loc 14 (.loc 15 (.loc 16 (.loc 18 (.loc 19 (.loc 20 (.loc 23 (.loc 24 (.st 3 234881024 (.st 7 239075840 (.st 13 239075328 (.st 17 239075328 (.st 21 239075328 (.last 8 (.last 9 (.last 22 (.last 25 (.last 26 (.loc 27 .done))))))))))))))))))))))))))))) (.seq (.any (.loc 0 (.loc 1 (.loc 2 (.loc 6 (.loc 7 (.loc 8 (.loc 10 (.loc 11 (.loc 12 (.loc 15 (.loc 16 (.loc 17 (.loc 19 (.loc 20 (.loc 21 (.loc 25 (.loc 26 (.loc 27 (.loc 29 (.loc 30 (.loc 31 (.st 3 240518168608 (.st 9 257714831360 (.st 13 257714831360 (.loc 14 (.st 18 257723203584 (.st 22 257723203584 (.loc 23 (.loc 24 (.st 28 266287972352 (.st 32 266287972352 (.loc 33 (.loc 34 (.last 4 (.last 5 (.last 35 (.last 36 (.loc 37 .done))))))))))))))))))))))))))))))))))))))) (.seq (.any (.loc 0 (.loc 1 (.loc 2 (.loc 3 (.loc 4 (.loc 5 (.last 6 .done)))))))) (.seq (.any (.loc 0 (.loc 1 (.loc 2 (.loc 4 (.loc 6 (.st 3 416 (.loc 5 (.loc 7 (.last 8 .done)))))))))) .leaf))))
theorem digest_state_step.eq (s0 : Option Addr) (w1 : Int) (k2 : Int) (R : Value → Heap → Prop) (h : Heap) : digest_state_step.body s0 w1 k2 R h = evFn Try.prog Try.f71 digest_state_step.ann [(.pointer s0), (.int .u32 w1), (.int .u32 k2)] R h := by kernel_rfl
theorem digest_state_step.calls {s0 : Option Addr} {w1 : Int} {k2 : Int} {R : Value → Heap → Prop} {h : Heap} (H : digest_state_step.body s0 w1 k2 R h) : HC Try.prog F.digest_state_step #[(.pointer s0), (.int .u32 w1), (.int .u32 k2)] R h :=
  evFn_sound mixed Try.func71 (by kernel_rfl) (digest_state_step.eq s0 w1 k2 R h ▸ H)

/-! (*zugzwang/digest.state).take -/
def digest_state_take.body (s0 : Option Addr) (b1 : Sl) (R : Value → Heap → Prop) (h : Heap) : Prop :=
  newK h (zerosOf Try.prog T.a64_uint32) T.a64_uint32 (fun (w_1 : Option Addr) (h : Heap) =>
  callK Try.prog (Kd.pair .slice (.int .i64)) F.bits_Words #[(.slice b1.a b1.n b1.c)] (fun (v_2 : Sl × Int) (h : Heap) =>
  sliceArrK w_1 64 none none none (sizeOfT Try.prog T.uint32) (fun (v_3 : Sl) =>
  opK Try.prog (.int .i64) (Builtin.copy_ #[T.sl_uint32, T.sl_uint32] T.int #[(.slice v_3.a v_3.n v_3.c), (.slice v_2.1.a v_2.1.n v_2.1.c)]) (fun (v_4 : Int) (h : Heap) =>
  loopW (fun X_6 (s_5 : Int) (h : Heap) =>
  if (decide (s_5 < 64)) = true then
  idxArrK w_1 64 (IntKind.i64.wrap (s_5 - 15)) (sizeOfT Try.prog T.uint32) (fun (a_7 : Addr) =>
  idxArrK w_1 64 (IntKind.i64.wrap (s_5 - 15)) (sizeOfT Try.prog T.uint32) (fun (a_8 : Addr) =>
  loadK (.int .u32) h ((some a_7)) (fun (v_9 : Int) =>
  loadK (.int .u32) h ((some a_8)) (fun (v_10 : Int) =>
  newSlK h 2 #[(.int .i64 7), (.int .i64 18)] T.int (fun (v_11 : Sl) (h : Heap) =>
  callK Try.prog (.int .u32) F.bits_Mix #[(.int .u32 v_9), (.slice v_11.a v_11.n v_11.c)] (fun (v_12 : Int) (h : Heap) =>
  stillK (.int .u32) h ((some a_8)) v_10 ∧
  callK Try.prog (.int .u32) F.bits_Shift #[(.int .u32 v_10), (.int .i64 3)] (fun (v_13 : Int) (h : Heap) =>
  idxArrK w_1 64 (IntKind.i64.wrap (s_5 - 2)) (sizeOfT Try.prog T.uint32) (fun (a_14 : Addr) =>
  idxArrK w_1 64 (IntKind.i64.wrap (s_5 - 2)) (sizeOfT Try.prog T.uint32) (fun (a_15 : Addr) =>
  loadK (.int .u32) h ((some a_14)) (fun (v_16 : Int) =>
  loadK (.int .u32) h ((some a_15)) (fun (v_17 : Int) =>
  newSlK h 2 #[(.int .i64 17), (.int .i64 19)] T.int (fun (v_18 : Sl) (h : Heap) =>
  callK Try.prog (.int .u32) F.bits_Mix #[(.int .u32 v_16), (.slice v_18.a v_18.n v_18.c)] (fun (v_19 : Int) (h : Heap) =>
  stillK (.int .u32) h ((some a_15)) v_17 ∧
  callK Try.prog (.int .u32) F.bits_Shift #[(.int .u32 v_17), (.int .i64 10)] (fun (v_20 : Int) (h : Heap) =>
  idxArrK w_1 64 (IntKind.i64.wrap (s_5 - 16)) (sizeOfT Try.prog T.uint32) (fun (a_21 : Addr) =>
  idxArrK w_1 64 (IntKind.i64.wrap (s_5 - 7)) (sizeOfT Try.prog T.uint32) (fun (a_22 : Addr) =>
  loadK (.int .u32) h ((some a_21)) (fun (v_23 : Int) =>
  loadK (.int .u32) h ((some a_22)) (fun (v_24 : Int) =>
  newSlK h 4 #[(.int .u32 v_23), (.int .u32 (IntKind.u32.wrap (BitVec.ofInt (IntKind.bits .u32) v_12 ^^^ BitVec.ofInt (IntKind.bits .u32) v_13).toNat)), (.int .u32 v_24), (.int .u32 (IntKind.u32.wrap (BitVec.ofInt (IntKind.bits .u32) v_19 ^^^ BitVec.ofInt (IntKind.bits .u32) v_20).toNat))] T.uint32 (fun (v_25 : Sl) (h : Heap) =>
  callK Try.prog (.int .u32) F.bits_Sum #[(.slice v_25.a v_25.n v_25.c)] (fun (v_26 : Int) (h : Heap) =>
  idxArrK w_1 64 s_5 (sizeOfT Try.prog T.uint32) (fun (a_27 : Addr) =>
  storeK h ((some a_27)) (.int .u32 v_26) (fun (h : Heap) =>
  X_6 (IntKind.i64.wrap (s_5 + 1)) h))) h)))))) h) h)))))) h) h)))))
  else
  derefK s0 (fun (a_28 : Addr) =>
  loadAggK (sizeOfT Try.prog T.digest_state) h ((some a_28)) (fun (v_29 : Array Value) =>
  newK h (zerosOf Try.prog T.digest_state) T.digest_state (fun (was_30 : Option Addr) (h : Heap) =>
  storeAggK (sizeOfT Try.prog T.digest_state) h was_30 v_29 (fun (h : Heap) =>
  callK Try.prog .agg F.digest_constants #[] (fun (v_31 : Array Value) (h : Heap) =>
  loopW (fun X_33 (s_32 : Int) (h : Heap) =>
  if (decide (s_32 < 64)) = true then
  idxValK (.int .u32) v_31 64 s_32 (sizeOfT Try.prog T.uint32) (fun (v_34 : Int) =>
  idxArrK w_1 64 s_32 (sizeOfT Try.prog T.uint32) (fun (a_35 : Addr) =>
  loadK (.int .u32) h ((some a_35)) (fun (v_36 : Int) =>
  callK Try.prog .unit F.digest_state_step #[(.pointer s0), (.int .u32 v_36), (.int .u32 v_34)] (fun (v_37 : Unit) (h : Heap) =>
  X_33 (IntKind.i64.wrap (s_32 + 1)) h) h)))
  else
  loopW (fun X_39 (s_38 : Int) (h : Heap) =>
  if (decide (s_38 < 8)) = true then
  derefK s0 (fun (a_40 : Addr) =>
  idxArrK ((some a_40)) 8 s_38 (sizeOfT Try.prog T.uint32) (fun (a_41 : Addr) =>
  idxArrK was_30 8 s_38 (sizeOfT Try.prog T.uint32) (fun (a_42 : Addr) =>
  derefK s0 (fun (a_43 : Addr) =>
  loadK (.int .u32) h ((some a_41)) (fun (v_44 : Int) =>
  loadK (.int .u32) h ((some a_42)) (fun (v_45 : Int) =>
  idxArrK ((some a_43)) 8 s_38 (sizeOfT Try.prog T.uint32) (fun (a_46 : Addr) =>
  storeK h ((some a_46)) (.int .u32 (IntKind.u32.wrap (v_44 + v_45))) (fun (h : Heap) =>
  X_39 (IntKind.i64.wrap (s_38 + 1)) h))))))))
  else
  R (.tuple #[]) h) 0 h) 0 h) h))))) 16 h) h)) h)
def digest_state_take.ann : Ann := (.seq .leaf (.seq .leaf (.seq .leaf (.seq (.seq .leaf (.block (.loop [(7, (.int .i64))] (.seq (.seq .leaf (.cond .leaf .leaf)) (.seq (.block (.seq (.any (.loc 0 (.loc 1 (.loc 2 (.loc 6 (.loc 7 (.loc 8 (.st 3 7200 (.st 9 7168 (.last 4 (.last 5 (.last 10 (.loc 11 (.loc 12 .done)))))))))))))) (.seq (.any (.loc 0 (.loc 1 (.loc 2 (.loc 6 (.loc 7 (.loc 8 (.st 3 7200 (.st 9 7168 (.last 4 (.last 5 (.last 10 (.loc 11 (.loc 12 .done)))))))))))))) (.any (.loc 0 (.loc 1 (.loc 2 (.loc 3 (.loc 5 (.loc 6 (.loc 7 (.loc 8 (.loc 10 (.st 4 30720 (.st 9 30720 (.last 11 (.last 12 (.loc 13 (.last 14 .done))))))))))))))))))) .leaf))))) (.seq .leaf (.seq (.seq .leaf (.block (.loop [(68, (.int .i64))] (.seq .leaf (.seq (.cond .leaf .leaf) (.seq (.block (.seq .leaf .leaf)) .leaf)))))) (.seq .leaf (.block (.loop [(79, (.int .i64))] (.seq .leaf (.seq (.cond .leaf .leaf) (.seq (.block (.seq .leaf (.any (.loc 0 (.loc 1 (.loc 2 (.loc 3 (.loc 5 (.loc 6 (.loc 9 (.st 4 3328 (.st 7 3328 (.loc 8 (.loc 10 (.last 11 .done))))))))))))))) .leaf))))))))))))
theorem digest_state_take.eq (s0 : Option Addr) (b1 : Sl) (R : Value → Heap → Prop) (h : Heap) : digest_state_take.body s0 b1 R h = evFn Try.prog Try.f54 digest_state_take.ann [(.pointer s0), (.slice b1.a b1.n b1.c)] R h := by kernel_rfl
theorem digest_state_take.calls {s0 : Option Addr} {b1 : Sl} {R : Value → Heap → Prop} {h : Heap} (H : digest_state_take.body s0 b1 R h) : HC Try.prog F.digest_state_take #[(.pointer s0), (.slice b1.a b1.n b1.c)] R h :=
  evFn_sound mixed Try.func54 (by kernel_rfl) (digest_state_take.eq s0 b1 R h ▸ H)

/-! (*zugzwang/digest.Hasher).all -/
def digest_Hasher_all.body (h0 : Option Addr) (rows1 : Sl) (R : Value → Heap → Prop) (h : Heap) : Prop :=
  loopW (fun X_2 (s_1 : Int) (h : Heap) =>
  if (decide (s_1 < ((rows1.n : Int)))) = true then
  idxK rows1 s_1 (sizeOfT Try.prog T.sl_uint8) (fun (a_3 : Addr) =>
  loadK .slice h ((some a_3)) (fun (v_4 : Sl) =>
  derefK h0 (fun (a_5 : Addr) =>
  fldK ((some a_5)) 9 (fun (a_6 : Addr) =>
  loadK (.int .i64) h ((some a_6)) (fun (v_7 : Int) =>
  derefK h0 (fun (a_8 : Addr) =>
  fldK ((some a_8)) 9 (fun (a_9 : Addr) =>
  storeK h ((some a_9)) (.int .i64 (IntKind.i64.wrap (v_7 + ((v_4.n : Int))))) (fun (h : Heap) =>
  derefK h0 (fun (a_10 : Addr) =>
  fldK ((some a_10)) 8 (fun (a_11 : Addr) =>
  loadK .slice h ((some a_11)) (fun (v_12 : Sl) =>
  opK Try.prog .slice (Builtin.append_ #[T.sl_uint8, T.sl_uint8] T.sl_uint8 #[(.slice v_12.a v_12.n v_12.c), (.slice v_4.a v_4.n v_4.c)]) (fun (v_13 : Sl) (h : Heap) =>
  derefK h0 (fun (a_14 : Addr) =>
  fldK ((some a_14)) 8 (fun (a_15 : Addr) =>
  storeK h ((some a_15)) (.slice v_13.a v_13.n v_13.c) (fun (h : Heap) =>
  loopW (fun X_17 (s_16 : Unit) (h : Heap) =>
  derefK h0 (fun (a_18 : Addr) =>
  fldK ((some a_18)) 8 (fun (a_19 : Addr) =>
  loadK .slice h ((some a_19)) (fun (v_20 : Sl) =>
  if (decide (((v_20.n : Int)) ≥ 64)) = true then
  derefK h0 (fun (a_21 : Addr) =>
  fldK ((some a_21)) 0 (fun (a_22 : Addr) =>
  derefK h0 (fun (a_23 : Addr) =>
  fldK ((some a_23)) 8 (fun (a_24 : Addr) =>
  loadK .slice h ((some a_24)) (fun (v_25 : Sl) =>
  sliceK v_25 none (some 64) none (sizeOfT Try.prog T.uint8) (fun (v_26 : Sl) =>
  callK Try.prog .unit F.digest_state_take #[(.pointer ((some a_22))), (.slice v_26.a v_26.n v_26.c)] (fun (v_27 : Unit) (h : Heap) =>
  derefK h0 (fun (a_28 : Addr) =>
  fldK ((some a_28)) 8 (fun (a_29 : Addr) =>
  loadK .slice h ((some a_29)) (fun (v_30 : Sl) =>
  sliceK v_30 (some 64) none none (sizeOfT Try.prog T.uint8) (fun (v_31 : Sl) =>
  derefK h0 (fun (a_32 : Addr) =>
  fldK ((some a_32)) 8 (fun (a_33 : Addr) =>
  storeK h ((some a_33)) (.slice v_31.a v_31.n v_31.c) (fun (h : Heap) =>
  X_17 () h)))))))) h))))))
  else
  X_2 (IntKind.i64.wrap (s_1 + 1)) h)))) () h)))) h)))))))))))
  else
  derefK h0 (fun (a_34 : Addr) =>
  fldK ((some a_34)) 8 (fun (a_35 : Addr) =>
  loadK .slice h ((some a_35)) (fun (v_36 : Sl) =>
  callK Try.prog .slice F.slices_Clone_byte_byte #[(.slice v_36.a v_36.n v_36.c)] (fun (v_37 : Sl) (h : Heap) =>
  derefK h0 (fun (a_38 : Addr) =>
  fldK ((some a_38)) 8 (fun (a_39 : Addr) =>
  storeK h ((some a_39)) (.slice v_37.a v_37.n v_37.c) (fun (h : Heap) =>
  R (.tuple #[]) h)))) h)))) 0 h
def digest_Hasher_all.ann : Ann := (.seq (.seq .leaf (.block (.loop [(8, (.int .i64))] (.seq .leaf (.seq (.cond .leaf .leaf) (.seq (.block (.seq .leaf (.seq .leaf (.seq .leaf (.block (.loop [] (.seq (.seq .leaf (.cond .leaf .leaf)) (.block (.seq (.any (.loc 0 (.loc 1 (.loc 2 (.loc 3 (.loc 4 (.loc 5 (.st 6 384 (.loc 7 (.last 8 .done)))))))))) .leaf))))))))) .leaf)))))) .leaf)
theorem digest_Hasher_all.eq (h0 : Option Addr) (rows1 : Sl) (R : Value → Heap → Prop) (h : Heap) : digest_Hasher_all.body h0 rows1 R h = evFn Try.prog Try.f33 digest_Hasher_all.ann [(.pointer h0), (.slice rows1.a rows1.n rows1.c)] R h := by kernel_rfl
theorem digest_Hasher_all.calls {h0 : Option Addr} {rows1 : Sl} {R : Value → Heap → Prop} {h : Heap} (H : digest_Hasher_all.body h0 rows1 R h) : HC Try.prog F.digest_Hasher_all #[(.pointer h0), (.slice rows1.a rows1.n rows1.c)] R h :=
  evFn_sound mixed Try.func33 (by kernel_rfl) (digest_Hasher_all.eq h0 rows1 R h ▸ H)

/-! (*zugzwang/bits.row).put -/
def bits_row_put.body (r0 : Option Addr) (w1 : Int) (R : Value → Heap → Prop) (h : Heap) : Prop :=
  derefK r0 (fun (a_1 : Addr) =>
  fldK ((some a_1)) 0 (fun (a_2 : Addr) =>
  loadK .slice h ((some a_2)) (fun (v_3 : Sl) =>
  shiftK 24
  (shiftK 16
  (shiftK 8
  (newSlK h 4 #[(.int .u8 (IntKind.u8.wrap (Int.fdiv w1 (2 ^ min (Int.toNat 24) (IntKind.bits .u32))))), (.int .u8 (IntKind.u8.wrap (Int.fdiv w1 (2 ^ min (Int.toNat 16) (IntKind.bits .u32))))), (.int .u8 (IntKind.u8.wrap (Int.fdiv w1 (2 ^ min (Int.toNat 8) (IntKind.bits .u32))))), (.int .u8 (IntKind.u8.wrap w1))] T.uint8 (fun (v_4 : Sl) (h : Heap) =>
  opK Try.prog .slice (Builtin.append_ #[T.sl_uint8, T.sl_uint8] T.sl_uint8 #[(.slice v_3.a v_3.n v_3.c), (.slice v_4.a v_4.n v_4.c)]) (fun (v_5 : Sl) (h : Heap) =>
  derefK r0 (fun (a_6 : Addr) =>
  fldK ((some a_6)) 0 (fun (a_7 : Addr) =>
  storeK h ((some a_7)) (.slice v_5.a v_5.n v_5.c) (fun (h : Heap) =>
  R (.tuple #[]) h)))) h)))))))
def bits_row_put.ann : Ann := .leaf
theorem bits_row_put.eq (r0 : Option Addr) (w1 : Int) (R : Value → Heap → Prop) (h : Heap) : bits_row_put.body r0 w1 R h = evFn Try.prog Try.f72 bits_row_put.ann [(.pointer r0), (.int .u32 w1)] R h := by kernel_rfl
theorem bits_row_put.calls {r0 : Option Addr} {w1 : Int} {R : Value → Heap → Prop} {h : Heap} (H : bits_row_put.body r0 w1 R h) : HC Try.prog F.bits_row_put #[(.pointer r0), (.int .u32 w1)] R h :=
  evFn_sound mixed Try.func72 (by kernel_rfl) (bits_row_put.eq r0 w1 R h ▸ H)

/-! zugzwang/bits.Bytes -/
def bits_Bytes.body (words0 : Sl) (R : Value → Heap → Prop) (h : Heap) : Prop :=
  newK h (zerosOf Try.prog T.bits_reader) T.bits_reader (fun (r_1 : Option Addr) (h : Heap) =>
  loopW (fun X_3 (s_2 : Int) (h : Heap) =>
  if (decide (s_2 < ((words0.n : Int)))) = true then
  idxK words0 s_2 (sizeOfT Try.prog T.uint32) (fun (a_4 : Addr) =>
  loadK (.int .u32) h ((some a_4)) (fun (v_5 : Int) =>
  fldK r_1 0 (fun (a_6 : Addr) =>
  callK Try.prog .unit F.bits_row_put #[(.pointer ((some a_6))), (.int .u32 v_5)] (fun (v_7 : Unit) (h : Heap) =>
  X_3 (IntKind.i64.wrap (s_2 + 1)) h) h)))
  else
  fldK r_1 0 (fun (a_8 : Addr) =>
  fldK ((some a_8)) 0 (fun (a_9 : Addr) =>
  loadK .slice h ((some a_9)) (fun (v_10 : Sl) =>
  R (.slice v_10.a v_10.n v_10.c) h)))) 0 h)
def bits_Bytes.ann : Ann := (.seq .leaf (.seq .leaf (.seq (.seq .leaf (.block (.loop [(8, (.int .i64))] (.seq .leaf (.seq (.cond .leaf .leaf) (.seq (.block (.seq .leaf .leaf)) .leaf)))))) (.seq .leaf .leaf))))
theorem bits_Bytes.eq (words0 : Sl) (R : Value → Heap → Prop) (h : Heap) : bits_Bytes.body words0 R h = evFn Try.prog Try.f56 bits_Bytes.ann [(.slice words0.a words0.n words0.c)] R h := by kernel_rfl
theorem bits_Bytes.calls {words0 : Sl} {R : Value → Heap → Prop} {h : Heap} (H : bits_Bytes.body words0 R h) : HC Try.prog F.bits_Bytes #[(.slice words0.a words0.n words0.c)] R h :=
  evFn_sound mixed Try.func56 (by kernel_rfl) (bits_Bytes.eq words0 R h ▸ H)

/-! zugzwang/digest.fill -/
def digest_fill.body (n0 : Int) (R : Value → Heap → Prop) (h : Heap) : Prop :=
  divK 64
  (divK 64
  (opK Try.prog .slice (Instr.makeSlice T.sl_uint8 (.int .i64 (IntKind.i64.wrap (1 + (Int.tmod (IntKind.i64.wrap (119 - (Int.tmod n0 64))) 64)))) (.int .i64 128)) (fun (v_1 : Sl) (h : Heap) =>
  idxK v_1 0 (sizeOfT Try.prog T.uint8) (fun (a_2 : Addr) =>
  storeK h ((some a_2)) (.int .u8 128) (fun (h : Heap) =>
  shiftK 32
  (newSlK h 2 #[(.int .u32 (IntKind.u32.wrap (Int.fdiv (IntKind.u64.wrap (IntKind.i64.wrap (8 * n0))) (2 ^ min (Int.toNat 32) (IntKind.bits .u64))))), (.int .u32 (IntKind.u32.wrap (IntKind.u64.wrap (IntKind.i64.wrap (8 * n0)))))] T.uint32 (fun (v_3 : Sl) (h : Heap) =>
  callK Try.prog .slice F.bits_Bytes #[(.slice v_3.a v_3.n v_3.c)] (fun (v_4 : Sl) (h : Heap) =>
  opK Try.prog .slice (Builtin.append_ #[T.sl_uint8, T.sl_uint8] T.sl_uint8 #[(.slice v_1.a v_1.n v_1.c), (.slice v_4.a v_4.n v_4.c)]) (fun (v_5 : Sl) (h : Heap) =>
  R (.slice v_5.a v_5.n v_5.c) h) h) h))))) h))
def digest_fill.ann : Ann := (.seq .leaf (.seq .leaf (.seq .leaf (.seq .leaf (.seq .leaf .leaf)))))
theorem digest_fill.eq (n0 : Int) (R : Value → Heap → Prop) (h : Heap) : digest_fill.body n0 R h = evFn Try.prog Try.f55 digest_fill.ann [(.int .i64 n0)] R h := by kernel_rfl
theorem digest_fill.calls {n0 : Int} {R : Value → Heap → Prop} {h : Heap} (H : digest_fill.body n0 R h) : HC Try.prog F.digest_fill #[(.int .i64 n0)] R h :=
  evFn_sound mixed Try.func55 (by kernel_rfl) (digest_fill.eq n0 R h ▸ H)

/-! (*zugzwang/digest.Hasher).ended -/
def digest_Hasher_ended.body (h0 : Option Addr) (R : Value → Heap → Prop) (h : Heap) : Prop :=
  newK h (zerosOf Try.prog T.api_Tag) T.api_Tag (fun (t_1 : Option Addr) (h : Heap) =>
  derefK h0 (fun (a_2 : Addr) =>
  fldK ((some a_2)) 9 (fun (a_3 : Addr) =>
  loadK (.int .i64) h ((some a_3)) (fun (v_4 : Int) =>
  callK Try.prog .slice F.digest_fill #[(.int .i64 v_4)] (fun (v_5 : Sl) (h : Heap) =>
  newSlK h 1 #[(.slice v_5.a v_5.n v_5.c)] T.sl_uint8 (fun (v_6 : Sl) (h : Heap) =>
  callK Try.prog .unit F.digest_Hasher_all #[(.pointer h0), (.slice v_6.a v_6.n v_6.c)] (fun (v_7 : Unit) (h : Heap) =>
  sliceArrK t_1 32 none none none (sizeOfT Try.prog T.uint8) (fun (v_8 : Sl) =>
  derefK h0 (fun (a_9 : Addr) =>
  fldK ((some a_9)) 0 (fun (a_10 : Addr) =>
  sliceArrK ((some a_10)) 8 none none none (sizeOfT Try.prog T.uint32) (fun (v_11 : Sl) =>
  callK Try.prog .slice F.bits_Bytes #[(.slice v_11.a v_11.n v_11.c)] (fun (v_12 : Sl) (h : Heap) =>
  opK Try.prog (.int .i64) (Builtin.copy_ #[T.sl_uint8, T.sl_uint8] T.int #[(.slice v_8.a v_8.n v_8.c), (.slice v_12.a v_12.n v_12.c)]) (fun (v_13 : Int) (h : Heap) =>
  loadAggK (sizeOfT Try.prog T.api_Tag) h t_1 (fun (v_14 : Array Value) =>
  storeAggK (sizeOfT Try.prog T.api_Tag) h t_1 v_14 (fun (h : Heap) =>
  quietK Try.prog .agg (Instr.loadAt T.api_Tag (.pointer t_1)) (fun (r_15 : Array Value) =>
  R (.agg r_15) h) h))) h) h))))) h)) h))))
def digest_Hasher_ended.ann : Ann := (.seq .leaf (.seq .leaf (.seq (.any (.loc 0 (.loc 1 (.loc 2 (.loc 3 (.loc 4 (.last 5 (.last 6 .done)))))))) (.seq .leaf .leaf))))
theorem digest_Hasher_ended.eq (h0 : Option Addr) (R : Value → Heap → Prop) (h : Heap) : digest_Hasher_ended.body h0 R h = evFn Try.prog Try.f34 digest_Hasher_ended.ann [(.pointer h0)] R h := by kernel_rfl
theorem digest_Hasher_ended.calls {h0 : Option Addr} {R : Value → Heap → Prop} {h : Heap} (H : digest_Hasher_ended.body h0 R h) : HC Try.prog F.digest_Hasher_ended #[(.pointer h0)] R h :=
  evFn_sound mixed Try.func34 (by kernel_rfl) (digest_Hasher_ended.eq h0 R h ▸ H)

/-! zugzwang/digest.Of -/
def digest_Of.body (rows0 : Sl) (R : Value → Heap → Prop) (h : Heap) : Prop :=
  newK h (zerosOf Try.prog T.api_Tag) T.api_Tag (fun (v_1 : Option Addr) (h : Heap) =>
  callK Try.prog .ptr F.digest_New #[] (fun (v_2 : Option Addr) (h : Heap) =>
  callK Try.prog .unit F.digest_Hasher_all #[(.pointer v_2), (.slice rows0.a rows0.n rows0.c)] (fun (v_3 : Unit) (h : Heap) =>
  callK Try.prog .agg F.digest_Hasher_ended #[(.pointer v_2)] (fun (v_4 : Array Value) (h : Heap) =>
  storeAggK (sizeOfT Try.prog T.api_Tag) h v_1 v_4 (fun (h : Heap) =>
  quietK Try.prog .agg (Instr.loadAt T.api_Tag (.pointer v_1)) (fun (r_5 : Array Value) =>
  R (.agg r_5) h) h)) h) h) h)
def digest_Of.ann : Ann := (.seq .leaf (.seq .leaf (.seq .leaf (.seq .leaf .leaf))))
theorem digest_Of.eq (rows0 : Sl) (R : Value → Heap → Prop) (h : Heap) : digest_Of.body rows0 R h = evFn Try.prog Try.f20 digest_Of.ann [(.slice rows0.a rows0.n rows0.c)] R h := by kernel_rfl
theorem digest_Of.calls {rows0 : Sl} {R : Value → Heap → Prop} {h : Heap} (H : digest_Of.body rows0 R h) : HC Try.prog F.digest_Of #[(.slice rows0.a rows0.n rows0.c)] R h :=
  evFn_sound mixed Try.func20 (by kernel_rfl) (digest_Of.eq rows0 R h ▸ H)

/-! zugzwang/tags.eight -/
def tags_eight.body (n0 : Int) (R : Value → Heap → Prop) (h : Heap) : Prop :=
  loopW (fun X_2 (s_1 : Sl × Int) (h : Heap) =>
  if (decide (s_1.2 < 8)) = true then
  shiftK (IntKind.i64.wrap (56 - (IntKind.i64.wrap (8 * s_1.2))))
  (newSlK h 1 #[(.int .u8 (IntKind.u8.wrap (Int.fdiv (IntKind.u64.wrap n0) (2 ^ min (Int.toNat (IntKind.i64.wrap (56 - (IntKind.i64.wrap (8 * s_1.2))))) (IntKind.bits .u64)))))] T.uint8 (fun (v_3 : Sl) (h : Heap) =>
  opK Try.prog .slice (Builtin.append_ #[T.sl_uint8, T.sl_uint8] T.sl_uint8 #[(.slice s_1.1.a s_1.1.n s_1.1.c), (.slice v_3.a v_3.n v_3.c)]) (fun (v_4 : Sl) (h : Heap) =>
  X_2 (v_4, IntKind.i64.wrap (s_1.2 + 1)) h) h))
  else
  R (.slice s_1.1.a s_1.1.n s_1.1.c) h) (⟨none, 0, 0⟩, 0) h
def tags_eight.ann : Ann := (.seq .leaf (.seq (.seq .leaf (.block (.loop [(2, .slice), (4, (.int .i64))] (.seq .leaf (.seq (.cond .leaf .leaf) (.seq (.block (.seq .leaf .leaf)) .leaf)))))) (.seq .leaf .leaf)))
theorem tags_eight.eq (n0 : Int) (R : Value → Heap → Prop) (h : Heap) : tags_eight.body n0 R h = evFn Try.prog Try.f21 tags_eight.ann [(.int .i64 n0)] R h := by kernel_rfl
theorem tags_eight.calls {n0 : Int} {R : Value → Heap → Prop} {h : Heap} (H : tags_eight.body n0 R h) : HC Try.prog F.tags_eight #[(.int .i64 n0)] R h :=
  evFn_sound mixed Try.func21 (by kernel_rfl) (tags_eight.eq n0 R h ▸ H)

/-! slices.Grow[[]byte,byte] -/
def slices_Grow_byte_byte.body (s0 : Sl) (n1 : Int) (R : Value → Heap → Prop) (h : Heap) : Prop :=
  if (decide (n1 < 0)) = true then
  opK Try.prog .any (Instr.makeInterface T.string (.string ((⟨#[99, 97, 110, 110, 111, 116, 32, 98, 101, 32, 110, 101, 103, 97, 116, 105, 118, 101]⟩ : ByteArray)))) (fun (v_1 : Value) (h : Heap) =>
  False) h
  else
  if (decide ((IntKind.i64.wrap (n1 - (IntKind.i64.wrap (((s0.c : Int)) - ((s0.n : Int)))))) > 0)) = true then
  sliceK s0 none (some ((s0.c : Int))) none (sizeOfT Try.prog T.uint8) (fun (v_2 : Sl) =>
  opK Try.prog .slice (Builtin.append_ #[T.sl_uint8, T.int] T.sl_uint8 #[(.slice v_2.a v_2.n v_2.c), (.int .i64 (IntKind.i64.wrap (n1 - (IntKind.i64.wrap (((s0.c : Int)) - ((s0.n : Int)))))))]) (fun (v_3 : Sl) (h : Heap) =>
  sliceK v_3 none (some ((s0.n : Int))) none (sizeOfT Try.prog T.uint8) (fun (v_4 : Sl) =>
  R (.slice v_4.a v_4.n v_4.c) h)) h)
  else
  R (.slice s0.a s0.n s0.c) h
def slices_Grow_byte_byte.ann : Ann := (.seq .leaf (.seq (.seq .leaf (.cond .leaf .leaf)) (.seq (.seq .leaf (.seq .leaf (.cond .leaf .leaf))) (.seq .leaf .leaf))))
theorem slices_Grow_byte_byte.eq (s0 : Sl) (n1 : Int) (R : Value → Heap → Prop) (h : Heap) : slices_Grow_byte_byte.body s0 n1 R h = evFn Try.prog Try.f48 slices_Grow_byte_byte.ann [(.slice s0.a s0.n s0.c), (.int .i64 n1)] R h := by kernel_rfl
theorem slices_Grow_byte_byte.calls {s0 : Sl} {n1 : Int} {R : Value → Heap → Prop} {h : Heap} (H : slices_Grow_byte_byte.body s0 n1 R h) : HC Try.prog F.slices_Grow_byte_byte #[(.slice s0.a s0.n s0.c), (.int .i64 n1)] R h :=
  evFn_sound mixed Try.func48 (by kernel_rfl) (slices_Grow_byte_byte.eq s0 n1 R h ▸ H)

/-! slices.Concat[[]byte,byte] -/
def slices_Concat_byte_byte.body (slices0 : Sl) (R : Value → Heap → Prop) (h : Heap) : Prop :=
  loopW (fun X_2 (s_1 : Int × Int) (h : Heap) =>
  if (decide (s_1.2 < ((slices0.n : Int)))) = true then
  idxK slices0 s_1.2 (sizeOfT Try.prog T.sl_uint8) (fun (a_3 : Addr) =>
  loadK .slice h ((some a_3)) (fun (v_4 : Sl) =>
  if (decide ((IntKind.i64.wrap (s_1.1 + ((v_4.n : Int)))) < 0)) = true then
  opK Try.prog .any (Instr.makeInterface T.string (.string ((⟨#[108, 101, 110, 32, 111, 117, 116, 32, 111, 102, 32, 114, 97, 110, 103, 101]⟩ : ByteArray)))) (fun (v_5 : Value) (h : Heap) =>
  False) h
  else
  X_2 (IntKind.i64.wrap (s_1.1 + ((v_4.n : Int))), IntKind.i64.wrap (s_1.2 + 1)) h))
  else
  callK Try.prog .slice F.slices_Grow_byte_byte #[(.slice none 0 0), (.int .i64 s_1.1)] (fun (v_6 : Sl) (h : Heap) =>
  loopW (fun X_8 (s_7 : Sl × Int) (h : Heap) =>
  if (decide (s_7.2 < ((slices0.n : Int)))) = true then
  idxK slices0 s_7.2 (sizeOfT Try.prog T.sl_uint8) (fun (a_9 : Addr) =>
  loadK .slice h ((some a_9)) (fun (v_10 : Sl) =>
  opK Try.prog .slice (Builtin.append_ #[T.sl_uint8, T.sl_uint8] T.sl_uint8 #[(.slice s_7.1.a s_7.1.n s_7.1.c), (.slice v_10.a v_10.n v_10.c)]) (fun (v_11 : Sl) (h : Heap) =>
  X_8 (v_11, IntKind.i64.wrap (s_7.2 + 1)) h) h))
  else
  R (.slice s_7.1.a s_7.1.n s_7.1.c) h) (v_6, 0) h) h) (0, 0) h
def slices_Concat_byte_byte.ann : Ann := (.seq .leaf (.seq .leaf (.seq (.seq .leaf (.block (.loop [(3, (.int .i64)), (11, (.int .i64))] (.seq .leaf (.seq (.cond .leaf .leaf) (.seq (.block (.seq .leaf (.seq .leaf (.seq .leaf (.cond .leaf .leaf))))) .leaf)))))) (.seq .leaf (.seq (.seq .leaf (.block (.loop [(6, .slice), (27, (.int .i64))] (.seq .leaf (.seq (.cond .leaf .leaf) (.seq (.block (.seq .leaf .leaf)) .leaf)))))) (.seq .leaf .leaf))))))
theorem slices_Concat_byte_byte.eq (slices0 : Sl) (R : Value → Heap → Prop) (h : Heap) : slices_Concat_byte_byte.body slices0 R h = evFn Try.prog Try.f28 slices_Concat_byte_byte.ann [(.slice slices0.a slices0.n slices0.c)] R h := by kernel_rfl
theorem slices_Concat_byte_byte.calls {slices0 : Sl} {R : Value → Heap → Prop} {h : Heap} (H : slices_Concat_byte_byte.body slices0 R h) : HC Try.prog F.slices_Concat_byte_byte #[(.slice slices0.a slices0.n slices0.c)] R h :=
  evFn_sound mixed Try.func28 (by kernel_rfl) (slices_Concat_byte_byte.eq slices0 R h ▸ H)

/-! zugzwang/tags.number -/
def tags_number.body (n0 : Int) (R : Value → Heap → Prop) (h : Heap) : Prop :=
  newK h (zerosOf Try.prog T.api_Tag) T.api_Tag (fun (t_1 : Option Addr) (h : Heap) =>
  sliceArrK t_1 32 none none none (sizeOfT Try.prog T.uint8) (fun (v_2 : Sl) =>
  ((newSlK h 8 #[(.int .u8 122), (.int .u8 117), (.int .u8 103), (.int .u8 122), (.int .u8 119), (.int .u8 97), (.int .u8 110), (.int .u8 103)] T.uint8 (fun (v_3 : Sl) (h : Heap) =>
  ((opK Try.prog .slice (convert T.sl_uint8 T.sl_uint8 (.slice v_3.a v_3.n v_3.c)) (fun (v_4 : Sl) (h : Heap) =>
  callK Try.prog .slice F.tags_eight #[(.int .i64 n0)] (fun (v_5 : Sl) (h : Heap) =>
  newSlK h 2 #[(.slice v_4.a v_4.n v_4.c), (.slice v_5.a v_5.n v_5.c)] T.sl_uint8 (fun (v_6 : Sl) (h : Heap) =>
  callK Try.prog .slice F.slices_Concat_byte_byte #[(.slice v_6.a v_6.n v_6.c)] (fun (v_7 : Sl) (h : Heap) =>
  opK Try.prog (.int .i64) (Builtin.copy_ #[T.sl_uint8, T.sl_uint8] T.int #[(.slice v_2.a v_2.n v_2.c), (.slice v_7.a v_7.n v_7.c)]) (fun (v_8 : Int) (h : Heap) =>
  loadAggK (sizeOfT Try.prog T.api_Tag) h t_1 (fun (v_9 : Array Value) =>
  storeAggK (sizeOfT Try.prog T.api_Tag) h t_1 v_9 (fun (h : Heap) =>
  quietK Try.prog .agg (Instr.loadAt T.api_Tag (.pointer t_1)) (fun (r_10 : Array Value) =>
  R (.agg r_10) h) h))) h) h)) h) h) ∧
  (callK Try.prog .slice F.tags_eight #[(.int .i64 n0)] (fun (v_11 : Sl) (h : Heap) =>
  opK Try.prog .slice (convert T.sl_uint8 T.sl_uint8 (.slice v_3.a v_3.n v_3.c)) (fun (v_12 : Sl) (h : Heap) =>
  newSlK h 2 #[(.slice v_12.a v_12.n v_12.c), (.slice v_11.a v_11.n v_11.c)] T.sl_uint8 (fun (v_13 : Sl) (h : Heap) =>
  callK Try.prog .slice F.slices_Concat_byte_byte #[(.slice v_13.a v_13.n v_13.c)] (fun (v_14 : Sl) (h : Heap) =>
  opK Try.prog (.int .i64) (Builtin.copy_ #[T.sl_uint8, T.sl_uint8] T.int #[(.slice v_2.a v_2.n v_2.c), (.slice v_14.a v_14.n v_14.c)]) (fun (v_15 : Int) (h : Heap) =>
  loadAggK (sizeOfT Try.prog T.api_Tag) h t_1 (fun (v_16 : Array Value) =>
  storeAggK (sizeOfT Try.prog T.api_Tag) h t_1 v_16 (fun (h : Heap) =>
  quietK Try.prog .agg (Instr.loadAt T.api_Tag (.pointer t_1)) (fun (r_17 : Array Value) =>
  R (.agg r_17) h) h))) h) h)) h) h)))) ∧
  (callK Try.prog .slice F.tags_eight #[(.int .i64 n0)] (fun (v_18 : Sl) (h : Heap) =>
  newSlK h 8 #[(.int .u8 122), (.int .u8 117), (.int .u8 103), (.int .u8 122), (.int .u8 119), (.int .u8 97), (.int .u8 110), (.int .u8 103)] T.uint8 (fun (v_19 : Sl) (h : Heap) =>
  opK Try.prog .slice (convert T.sl_uint8 T.sl_uint8 (.slice v_19.a v_19.n v_19.c)) (fun (v_20 : Sl) (h : Heap) =>
  newSlK h 2 #[(.slice v_20.a v_20.n v_20.c), (.slice v_18.a v_18.n v_18.c)] T.sl_uint8 (fun (v_21 : Sl) (h : Heap) =>
  callK Try.prog .slice F.slices_Concat_byte_byte #[(.slice v_21.a v_21.n v_21.c)] (fun (v_22 : Sl) (h : Heap) =>
  opK Try.prog (.int .i64) (Builtin.copy_ #[T.sl_uint8, T.sl_uint8] T.int #[(.slice v_2.a v_2.n v_2.c), (.slice v_22.a v_22.n v_22.c)]) (fun (v_23 : Int) (h : Heap) =>
  loadAggK (sizeOfT Try.prog T.api_Tag) h t_1 (fun (v_24 : Array Value) =>
  storeAggK (sizeOfT Try.prog T.api_Tag) h t_1 v_24 (fun (h : Heap) =>
  quietK Try.prog .agg (Instr.loadAt T.api_Tag (.pointer t_1)) (fun (r_25 : Array Value) =>
  R (.agg r_25) h) h))) h) h)) h)) h))))
def tags_number.ann : Ann := (.seq .leaf (.seq (.any (.loc 0 (.loc 3 (.alt 1 (.alt 2 (.last 4 (.last 5 (.last 6 (.last 7 .done)))) (.last 4 (.last 2 (.last 5 (.last 6 (.last 7 .done)))))) (.last 4 (.last 1 (.last 2 (.last 5 (.last 6 (.last 7 .done)))))))))) (.seq .leaf .leaf)))
theorem tags_number.eq (n0 : Int) (R : Value → Heap → Prop) (h : Heap) : tags_number.body n0 R h = evFn Try.prog Try.f35 tags_number.ann [(.int .i64 n0)] R h := by kernel_rfl
theorem tags_number.calls {n0 : Int} {R : Value → Heap → Prop} {h : Heap} (H : tags_number.body n0 R h) : HC Try.prog F.tags_number #[(.int .i64 n0)] R h :=
  evFn_sound mixed Try.func35 (by kernel_rfl) (tags_number.eq n0 R h ▸ H)

/-! (zugzwang/tags.book).ask -/
def tags_book_ask.body (b0 : Array Value) (x1 : Array Value) (R : Value → Heap → Prop) (h : Heap) : Prop :=
  newK h b0 T.tags_book (fun (b_1 : Option Addr) (h : Heap) =>
  newK h x1 T.tags_thing (fun (x_2 : Option Addr) (h : Heap) =>
  newK h (zerosOf Try.prog T.api_Tag) T.api_Tag (fun (v_3 : Option Addr) (h : Heap) =>
  fldK b_1 0 (fun (a_4 : Addr) =>
  loadK .map h ((some a_4)) (fun (v_5 : Option Nat) =>
  loadAggK (sizeOfT Try.prog T.tags_thing) h x_2 (fun (v_6 : Array Value) =>
  quietK Try.prog (Kd.pair (.int .i64) .bool) (Instr.lookup T.map_atags_thing_int (.map v_5) (.agg v_6) true) (fun (v_7 : Int × Bool) =>
  if (!v_7.2) = true then
  fldK b_1 0 (fun (a_8 : Addr) =>
  loadK .map h ((some a_8)) (fun (v_9 : Option Nat) =>
  quietK Try.prog (.int .i64) (Builtin.len_ #[T.map_atags_thing_int] T.int #[(.map v_9)]) (fun (v_10 : Int) =>
  fldK b_1 0 (fun (a_11 : Addr) =>
  loadK .map h ((some a_11)) (fun (v_12 : Option Nat) =>
  loadAggK (sizeOfT Try.prog T.tags_thing) h x_2 (fun (v_13 : Array Value) =>
  unitK Try.prog (Instr.mapUpdate T.map_atags_thing_int (.map v_12) (.agg v_13) (.int .i64 v_10)) (fun (h : Heap) =>
  callK Try.prog .agg F.tags_number #[(.int .i64 v_10)] (fun (v_14 : Array Value) (h : Heap) =>
  storeAggK (sizeOfT Try.prog T.api_Tag) h v_3 v_14 (fun (h : Heap) =>
  quietK Try.prog .agg (Instr.loadAt T.api_Tag (.pointer v_3)) (fun (r_15 : Array Value) =>
  R (.agg r_15) h) h)) h) h)))) h))
  else
  callK Try.prog .agg F.tags_number #[(.int .i64 v_7.1)] (fun (v_16 : Array Value) (h : Heap) =>
  storeAggK (sizeOfT Try.prog T.api_Tag) h v_3 v_16 (fun (h : Heap) =>
  quietK Try.prog .agg (Instr.loadAt T.api_Tag (.pointer v_3)) (fun (r_17 : Array Value) =>
  R (.agg r_17) h) h)) h) h))))))
def tags_book_ask.ann : Ann := (.seq .leaf (.seq .leaf (.seq (.seq .leaf (.cond (.seq .leaf .leaf) .leaf)) (.seq .leaf .leaf))))
theorem tags_book_ask.eq (b0 : Array Value) (x1 : Array Value) (R : Value → Heap → Prop) (h : Heap) : tags_book_ask.body b0 x1 R h = evFn Try.prog Try.f22 tags_book_ask.ann [(.agg b0), (.agg x1)] R h := by kernel_rfl
theorem tags_book_ask.calls {b0 : Array Value} {x1 : Array Value} {R : Value → Heap → Prop} {h : Heap} (H : tags_book_ask.body b0 x1 R h) : HC Try.prog F.tags_book_ask #[(.agg b0), (.agg x1)] R h :=
  evFn_sound mixed Try.func22 (by kernel_rfl) (tags_book_ask.eq b0 x1 R h ▸ H)

/-! (*zugzwang/tags.Maker).Sum -/
def tags_Maker_Sum.body (m0 : Option Addr) (rows1 : Sl) (R : Value → Heap → Prop) (h : Heap) : Prop :=
  newK h (zerosOf Try.prog T.api_Tag) T.api_Tag (fun (v_1 : Option Addr) (h : Heap) =>
  callK Try.prog .bool F.tags_Maker_there #[(.pointer m0)] (fun (v_2 : Bool) (h : Heap) =>
  if (!v_2) = true then
  buildK Try.prog (Instr.build T.api_Tag #[]) (fun (v_3 : Array Value) =>
  storeAggK (sizeOfT Try.prog T.api_Tag) h v_1 v_3 (fun (h : Heap) =>
  quietK Try.prog .agg (Instr.loadAt T.api_Tag (.pointer v_1)) (fun (r_4 : Array Value) =>
  R (.agg r_4) h) h))
  else
  derefK m0 (fun (a_5 : Addr) =>
  fldK ((some a_5)) 1 (fun (a_6 : Addr) =>
  loadK .bool h ((some a_6)) (fun (v_7 : Bool) =>
  if v_7 = true then
  callK Try.prog .agg F.digest_Of #[(.slice rows1.a rows1.n rows1.c)] (fun (v_8 : Array Value) (h : Heap) =>
  storeAggK (sizeOfT Try.prog T.api_Tag) h v_1 v_8 (fun (h : Heap) =>
  quietK Try.prog .agg (Instr.loadAt T.api_Tag (.pointer v_1)) (fun (r_9 : Array Value) =>
  R (.agg r_9) h) h)) h
  else
  derefK m0 (fun (a_10 : Addr) =>
  fldK ((some a_10)) 0 (fun (a_11 : Addr) =>
  loadAggK (sizeOfT Try.prog T.tags_book) h ((some a_11)) (fun (v_12 : Array Value) =>
  callK Try.prog .slice F.slices_Concat_byte_byte #[(.slice rows1.a rows1.n rows1.c)] (fun (v_13 : Sl) (h : Heap) =>
  stillAggK (sizeOfT Try.prog T.tags_book) h ((some a_11)) v_12 ∧
  opK Try.prog .str (convert T.sl_uint8 T.string (.slice v_13.a v_13.n v_13.c)) (fun (v_14 : ByteArray) (h : Heap) =>
  buildK Try.prog (Instr.build T.tags_thing #[(0, (.int .u8 115)), (2, (.string v_14))]) (fun (v_15 : Array Value) =>
  callK Try.prog .agg F.tags_book_ask #[(.agg v_12), (.agg v_15)] (fun (v_16 : Array Value) (h : Heap) =>
  storeAggK (sizeOfT Try.prog T.api_Tag) h v_1 v_16 (fun (h : Heap) =>
  quietK Try.prog .agg (Instr.loadAt T.api_Tag (.pointer v_1)) (fun (r_17 : Array Value) =>
  R (.agg r_17) h) h)) h)) h) h))))))) h)
def tags_Maker_Sum.ann : Ann := (.seq .leaf (.seq (.block (.seq .leaf (.cond (.seq .leaf .leaf) (.seq .leaf (.cond (.seq .leaf .leaf) .leaf))))) (.seq (.any (.loc 0 (.loc 1 (.loc 2 (.loc 4 (.st 3 768 (.last 5 (.last 6 (.loc 7 (.last 8 (.last 9 .done))))))))))) .leaf)))
theorem tags_Maker_Sum.eq (m0 : Option Addr) (rows1 : Sl) (R : Value → Heap → Prop) (h : Heap) : tags_Maker_Sum.body m0 rows1 R h = evFn Try.prog Try.f15 tags_Maker_Sum.ann [(.pointer m0), (.slice rows1.a rows1.n rows1.c)] R h := by kernel_rfl
theorem tags_Maker_Sum.calls {m0 : Option Addr} {rows1 : Sl} {R : Value → Heap → Prop} {h : Heap} (H : tags_Maker_Sum.body m0 rows1 R h) : HC Try.prog F.tags_Maker_Sum #[(.pointer m0), (.slice rows1.a rows1.n rows1.c)] R h :=
  evFn_sound mixed Try.func15 (by kernel_rfl) (tags_Maker_Sum.eq m0 rows1 R h ▸ H)

/-! zugzwang/codec.New -/
def codec_New.body  (R : Value → Heap → Prop) (h : Heap) : Prop :=
  buildK Try.prog (Instr.build T.codec_state #[(0, (.bool true))]) (fun (v_1 : Array Value) =>
  buildK Try.prog (Instr.build T.codec_Writer #[(0, (.agg v_1))]) (fun (v_2 : Array Value) =>
  newK h v_2 T.codec_Writer (fun (v_3 : Option Addr) (h : Heap) =>
  R (.pointer v_3) h)))
def codec_New.ann : Ann := (.seq .leaf (.seq .leaf .leaf))
theorem codec_New.eq  (R : Value → Heap → Prop) (h : Heap) : codec_New.body  R h = evFn Try.prog Try.f64 codec_New.ann [] R h := by kernel_rfl
theorem codec_New.calls  {R : Value → Heap → Prop} {h : Heap} (H : codec_New.body  R h) : HC Try.prog F.codec_New #[] R h :=
  evFn_sound mixed Try.func64 (by kernel_rfl) (codec_New.eq  R h ▸ H)

/-! (*zugzwang/codec.state).sound -/
def codec_state_sound.body (s0 : Option Addr) (R : Value → Heap → Prop) (h : Heap) : Prop :=
  derefK s0 (fun (a_1 : Addr) =>
  fldK ((some a_1)) 1 (fun (a_2 : Addr) =>
  loadK (.int .i64) h ((some a_2)) (fun (v_3 : Int) =>
  R (.bool (v_3 == 0)) h)))
def codec_state_sound.ann : Ann := (.seq .leaf (.seq .leaf .leaf))
theorem codec_state_sound.eq (s0 : Option Addr) (R : Value → Heap → Prop) (h : Heap) : codec_state_sound.body s0 R h = evFn Try.prog Try.f87 codec_state_sound.ann [(.pointer s0)] R h := by kernel_rfl
theorem codec_state_sound.calls {s0 : Option Addr} {R : Value → Heap → Prop} {h : Heap} (H : codec_state_sound.body s0 R h) : HC Try.prog F.codec_state_sound #[(.pointer s0)] R h :=
  evFn_sound mixed Try.func87 (by kernel_rfl) (codec_state_sound.eq s0 R h ▸ H)

/-! (*zugzwang/codec.state).spoil -/
def codec_state_spoil.body (s0 : Option Addr) (e1 : Int) (R : Value → Heap → Prop) (h : Heap) : Prop :=
  joinW (fun (s_1 : Unit) (h : Heap) =>
  derefK s0 (fun (a_2 : Addr) =>
  fldK ((some a_2)) 1 (fun (a_3 : Addr) =>
  loadK (.int .i64) h ((some a_3)) (fun (v_4 : Int) =>
  R (.int .i64 v_4) h))))
  (fun J_5 =>
  derefK s0 (fun (a_6 : Addr) =>
  fldK ((some a_6)) 1 (fun (a_7 : Addr) =>
  loadK (.int .i64) h ((some a_7)) (fun (v_8 : Int) =>
  if (v_8 == 0) = true then
  derefK s0 (fun (a_9 : Addr) =>
  fldK ((some a_9)) 1 (fun (a_10 : Addr) =>
  storeK h ((some a_10)) (.int .i64 e1) (fun (h : Heap) =>
  J_5 () h)))
  else
  J_5 () h))))
def codec_state_spoil.ann : Ann := (.seq .leaf (.join [] (.seq .leaf (.cond .leaf .leaf)) (.seq .leaf .leaf)))
theorem codec_state_spoil.eq (s0 : Option Addr) (e1 : Int) (R : Value → Heap → Prop) (h : Heap) : codec_state_spoil.body s0 e1 R h = evFn Try.prog Try.f89 codec_state_spoil.ann [(.pointer s0), (.int .i64 e1)] R h := by kernel_rfl
theorem codec_state_spoil.calls {s0 : Option Addr} {e1 : Int} {R : Value → Heap → Prop} {h : Heap} (H : codec_state_spoil.body s0 e1 R h) : HC Try.prog F.codec_state_spoil #[(.pointer s0), (.int .i64 e1)] R h :=
  evFn_sound mixed Try.func89 (by kernel_rfl) (codec_state_spoil.eq s0 e1 R h ▸ H)

/-! zugzwang/codec.put[[]byte] -/
def codec_put_byte.body (w0 : Option Addr) (r1 : Array Value) (l2 : Sl) (R : Value → Heap → Prop) (h : Heap) : Prop :=
  newK h r1 T.codec_ruleasl_byte (fun (r_1 : Option Addr) (h : Heap) =>
  if w0.isNone = true then
  R (.int .i64 1) h
  else
  derefK w0 (fun (a_2 : Addr) =>
  fldK ((some a_2)) 0 (fun (a_3 : Addr) =>
  fldK ((some a_3)) 0 (fun (a_4 : Addr) =>
  loadK .bool h ((some a_4)) (fun (v_5 : Bool) =>
  if (!v_5) = true then
  R (.int .i64 1) h
  else
  joinW (fun (s_6 : Unit) (h : Heap) =>
  derefK w0 (fun (a_7 : Addr) =>
  fldK ((some a_7)) 0 (fun (a_8 : Addr) =>
  fldK ((some a_8)) 1 (fun (a_9 : Addr) =>
  loadK (.int .i64) h ((some a_9)) (fun (v_10 : Int) =>
  R (.int .i64 v_10) h)))))
  (fun J_11 =>
  loopW (fun X_13 (s_12 : Int) (h : Heap) =>
  if (decide (s_12 < ((l2.n : Int)))) = true then
  idxK l2 s_12 (sizeOfT Try.prog T.sl_uint8) (fun (a_14 : Addr) =>
  loadK .slice h ((some a_14)) (fun (v_15 : Sl) =>
  derefK w0 (fun (a_16 : Addr) =>
  fldK ((some a_16)) 0 (fun (a_17 : Addr) =>
  callK Try.prog .bool F.codec_state_sound #[(.pointer ((some a_17)))] (fun (v_18 : Bool) (h : Heap) =>
  if (!v_18) = true then
  J_11 () h
  else
  joinW (fun (s_19 : Bool) (h : Heap) =>
  if s_19 = true then
  derefK w0 (fun (a_20 : Addr) =>
  fldK ((some a_20)) 0 (fun (a_21 : Addr) =>
  callK Try.prog (.int .i64) F.codec_state_spoil #[(.pointer ((some a_21))), (.int .i64 2)] (fun (v_22 : Int) (h : Heap) =>
  R (.int .i64 v_22) h) h))
  else
  fldK r_1 1 (fun (a_23 : Addr) =>
  loadK .any h ((some a_23)) (fun (v_24 : Value) =>
  callV Try.prog .slice v_24 #[(.slice v_15.a v_15.n v_15.c)] (fun (v_25 : Sl) (h : Heap) =>
  derefK w0 (fun (a_26 : Addr) =>
  fldK ((some a_26)) 2 (fun (a_27 : Addr) =>
  loadK .slice h ((some a_27)) (fun (v_28 : Sl) =>
  if (decide ((IntKind.i64.wrap (((v_28.n : Int)) + ((v_25.n : Int)))) > 65536)) = true then
  derefK w0 (fun (a_29 : Addr) =>
  fldK ((some a_29)) 0 (fun (a_30 : Addr) =>
  callK Try.prog (.int .i64) F.codec_state_spoil #[(.pointer ((some a_30))), (.int .i64 3)] (fun (v_31 : Int) (h : Heap) =>
  R (.int .i64 v_31) h) h))
  else
  derefK w0 (fun (a_32 : Addr) =>
  fldK ((some a_32)) 2 (fun (a_33 : Addr) =>
  loadK .slice h ((some a_33)) (fun (v_34 : Sl) =>
  opK Try.prog .slice (Builtin.append_ #[T.sl_uint8, T.sl_uint8] T.sl_uint8 #[(.slice v_34.a v_34.n v_34.c), (.slice v_25.a v_25.n v_25.c)]) (fun (v_35 : Sl) (h : Heap) =>
  derefK w0 (fun (a_36 : Addr) =>
  fldK ((some a_36)) 2 (fun (a_37 : Addr) =>
  storeK h ((some a_37)) (.slice v_35.a v_35.n v_35.c) (fun (h : Heap) =>
  X_13 (IntKind.i64.wrap (s_12 + 1)) h)))) h))))))) h)))
  (fun J_38 =>
  fldK r_1 0 (fun (a_39 : Addr) =>
  loadK .any h ((some a_39)) (fun (v_40 : Value) =>
  eqK Try.prog (binSem .neq T.func29 (.tmp 32) (.const Value.nilFunc) v_40 Value.nilFunc) (fun (v_41 : Bool) =>
  if v_41 = true then
  fldK r_1 0 (fun (a_42 : Addr) =>
  loadK .any h ((some a_42)) (fun (v_43 : Value) =>
  callV Try.prog .bool v_43 #[(.slice v_15.a v_15.n v_15.c)] (fun (v_44 : Bool) (h : Heap) =>
  J_38 (!v_44) h) h))
  else
  J_38 false h))))) h))))
  else
  J_11 () h) 0 h))))))
def codec_put_byte.ann : Ann := (.seq .leaf (.seq (.seq .leaf (.cond (.seq .leaf .leaf) .leaf)) (.join [] (.seq .leaf (.block (.loop [(22, (.int .i64))] (.seq .leaf (.seq (.cond .leaf .leaf) (.seq (.block (.seq .leaf (.seq (.seq .leaf (.cond .leaf .leaf)) (.seq (.join [(40, .bool)] .leaf (.cond (.seq .leaf .leaf) .leaf)) (.seq .leaf (.seq (.seq .leaf (.cond (.seq .leaf .leaf) .leaf)) .leaf)))))) .leaf)))))) (.seq .leaf .leaf))))
theorem codec_put_byte.eq (w0 : Option Addr) (r1 : Array Value) (l2 : Sl) (R : Value → Heap → Prop) (h : Heap) : codec_put_byte.body w0 r1 l2 R h = evFn Try.prog Try.f82 codec_put_byte.ann [(.pointer w0), (.agg r1), (.slice l2.a l2.n l2.c)] R h := by kernel_rfl
theorem codec_put_byte.calls {w0 : Option Addr} {r1 : Array Value} {l2 : Sl} {R : Value → Heap → Prop} {h : Heap} (H : codec_put_byte.body w0 r1 l2 R h) : HC Try.prog F.codec_put_byte #[(.pointer w0), (.agg r1), (.slice l2.a l2.n l2.c)] R h :=
  evFn_sound mixed Try.func82 (by kernel_rfl) (codec_put_byte.eq w0 r1 l2 R h ▸ H)

/-! zugzwang/codec.bytes4 -/
def codec_bytes4.body (n0 : Int) (R : Value → Heap → Prop) (h : Heap) : Prop :=
  shiftK 24
  (shiftK 16
  (shiftK 8
  (newSlK h 4 #[(.int .u8 (IntKind.u8.wrap (Int.fdiv n0 (2 ^ min (Int.toNat 24) (IntKind.bits .i64))))), (.int .u8 (IntKind.u8.wrap (Int.fdiv n0 (2 ^ min (Int.toNat 16) (IntKind.bits .i64))))), (.int .u8 (IntKind.u8.wrap (Int.fdiv n0 (2 ^ min (Int.toNat 8) (IntKind.bits .i64))))), (.int .u8 (IntKind.u8.wrap n0))] T.uint8 (fun (v_1 : Sl) (h : Heap) =>
  R (.slice v_1.a v_1.n v_1.c) h))))
def codec_bytes4.ann : Ann := (.seq .leaf (.seq .leaf .leaf))
theorem codec_bytes4.eq (n0 : Int) (R : Value → Heap → Prop) (h : Heap) : codec_bytes4.body n0 R h = evFn Try.prog Try.f84 codec_bytes4.ann [(.int .i64 n0)] R h := by kernel_rfl
theorem codec_bytes4.calls {n0 : Int} {R : Value → Heap → Prop} {h : Heap} (H : codec_bytes4.body n0 R h) : HC Try.prog F.codec_bytes4 #[(.int .i64 n0)] R h :=
  evFn_sound mixed Try.func84 (by kernel_rfl) (codec_bytes4.eq n0 R h ▸ H)

/-! (*zugzwang/codec.Writer).Run$1 -/
def codec_Writer_Run_1.body (b0 : Sl) (R : Value → Heap → Prop) (h : Heap) : Prop :=
  callK Try.prog .slice F.codec_bytes4 #[(.int .i64 ((b0.n : Int)))] (fun (v_1 : Sl) (h : Heap) =>
  newSlK h 2 #[(.slice v_1.a v_1.n v_1.c), (.slice b0.a b0.n b0.c)] T.sl_uint8 (fun (v_2 : Sl) (h : Heap) =>
  callK Try.prog .slice F.slices_Concat_byte_byte #[(.slice v_2.a v_2.n v_2.c)] (fun (v_3 : Sl) (h : Heap) =>
  R (.slice v_3.a v_3.n v_3.c) h) h)) h
def codec_Writer_Run_1.ann : Ann := (.seq .leaf (.seq .leaf .leaf))
theorem codec_Writer_Run_1.eq (b0 : Sl) (R : Value → Heap → Prop) (h : Heap) : codec_Writer_Run_1.body b0 R h = evFn Try.prog Try.f83 codec_Writer_Run_1.ann [(.slice b0.a b0.n b0.c)] R h := by kernel_rfl
theorem codec_Writer_Run_1.calls {b0 : Sl} {R : Value → Heap → Prop} {h : Heap} (H : codec_Writer_Run_1.body b0 R h) : HC Try.prog F.codec_Writer_Run_1 #[(.slice b0.a b0.n b0.c)] R h :=
  evFn_sound mixed Try.func83 (by kernel_rfl) (codec_Writer_Run_1.eq b0 R h ▸ H)

/-! (*zugzwang/codec.Writer).Run -/
def codec_Writer_Run.body (w0 : Option Addr) (l1 : Sl) (R : Value → Heap → Prop) (h : Heap) : Prop :=
  buildK Try.prog (Instr.build T.codec_ruleasl_byte #[(1, ((Value.func (.func F.codec_Writer_Run_1) #[] #[])))]) (fun (v_1 : Array Value) =>
  callK Try.prog (.int .i64) F.codec_put_byte #[(.pointer w0), (.agg v_1), (.slice l1.a l1.n l1.c)] (fun (v_2 : Int) (h : Heap) =>
  R (.int .i64 v_2) h) h)
def codec_Writer_Run.ann : Ann := (.seq .leaf (.seq .leaf .leaf))
theorem codec_Writer_Run.eq (w0 : Option Addr) (l1 : Sl) (R : Value → Heap → Prop) (h : Heap) : codec_Writer_Run.body w0 l1 R h = evFn Try.prog Try.f76 codec_Writer_Run.ann [(.pointer w0), (.slice l1.a l1.n l1.c)] R h := by kernel_rfl
theorem codec_Writer_Run.calls {w0 : Option Addr} {l1 : Sl} {R : Value → Heap → Prop} {h : Heap} (H : codec_Writer_Run.body w0 l1 R h) : HC Try.prog F.codec_Writer_Run #[(.pointer w0), (.slice l1.a l1.n l1.c)] R h :=
  evFn_sound mixed Try.func76 (by kernel_rfl) (codec_Writer_Run.eq w0 l1 R h ▸ H)

/-! zugzwang/codec.put[zugzwang/api.Tag] -/
def codec_put_api_Tag.body (w0 : Option Addr) (r1 : Array Value) (l2 : Sl) (R : Value → Heap → Prop) (h : Heap) : Prop :=
  newK h r1 T.codec_ruleaapi_Tag (fun (r_1 : Option Addr) (h : Heap) =>
  if w0.isNone = true then
  R (.int .i64 1) h
  else
  derefK w0 (fun (a_2 : Addr) =>
  fldK ((some a_2)) 0 (fun (a_3 : Addr) =>
  fldK ((some a_3)) 0 (fun (a_4 : Addr) =>
  loadK .bool h ((some a_4)) (fun (v_5 : Bool) =>
  if (!v_5) = true then
  R (.int .i64 1) h
  else
  joinW (fun (s_6 : Unit) (h : Heap) =>
  derefK w0 (fun (a_7 : Addr) =>
  fldK ((some a_7)) 0 (fun (a_8 : Addr) =>
  fldK ((some a_8)) 1 (fun (a_9 : Addr) =>
  loadK (.int .i64) h ((some a_9)) (fun (v_10 : Int) =>
  R (.int .i64 v_10) h)))))
  (fun J_11 =>
  loopW (fun X_13 (s_12 : Int) (h : Heap) =>
  if (decide (s_12 < ((l2.n : Int)))) = true then
  idxK l2 s_12 (sizeOfT Try.prog T.api_Tag) (fun (a_14 : Addr) =>
  loadAggK (sizeOfT Try.prog T.api_Tag) h ((some a_14)) (fun (v_15 : Array Value) =>
  newK h (zerosOf Try.prog T.api_Tag) T.api_Tag (fun (x_16 : Option Addr) (h : Heap) =>
  storeAggK (sizeOfT Try.prog T.api_Tag) h x_16 v_15 (fun (h : Heap) =>
  derefK w0 (fun (a_17 : Addr) =>
  fldK ((some a_17)) 0 (fun (a_18 : Addr) =>
  callK Try.prog .bool F.codec_state_sound #[(.pointer ((some a_18)))] (fun (v_19 : Bool) (h : Heap) =>
  if (!v_19) = true then
  J_11 () h
  else
  joinW (fun (s_20 : Bool) (h : Heap) =>
  if s_20 = true then
  derefK w0 (fun (a_21 : Addr) =>
  fldK ((some a_21)) 0 (fun (a_22 : Addr) =>
  callK Try.prog (.int .i64) F.codec_state_spoil #[(.pointer ((some a_22))), (.int .i64 2)] (fun (v_23 : Int) (h : Heap) =>
  R (.int .i64 v_23) h) h))
  else
  fldK r_1 1 (fun (a_24 : Addr) =>
  loadK .any h ((some a_24)) (fun (v_25 : Value) =>
  loadAggK (sizeOfT Try.prog T.api_Tag) h x_16 (fun (v_26 : Array Value) =>
  callV Try.prog .slice v_25 #[(.agg v_26)] (fun (v_27 : Sl) (h : Heap) =>
  derefK w0 (fun (a_28 : Addr) =>
  fldK ((some a_28)) 2 (fun (a_29 : Addr) =>
  loadK .slice h ((some a_29)) (fun (v_30 : Sl) =>
  if (decide ((IntKind.i64.wrap (((v_30.n : Int)) + ((v_27.n : Int)))) > 65536)) = true then
  derefK w0 (fun (a_31 : Addr) =>
  fldK ((some a_31)) 0 (fun (a_32 : Addr) =>
  callK Try.prog (.int .i64) F.codec_state_spoil #[(.pointer ((some a_32))), (.int .i64 3)] (fun (v_33 : Int) (h : Heap) =>
  R (.int .i64 v_33) h) h))
  else
  derefK w0 (fun (a_34 : Addr) =>
  fldK ((some a_34)) 2 (fun (a_35 : Addr) =>
  loadK .slice h ((some a_35)) (fun (v_36 : Sl) =>
  opK Try.prog .slice (Builtin.append_ #[T.sl_uint8, T.sl_uint8] T.sl_uint8 #[(.slice v_36.a v_36.n v_36.c), (.slice v_27.a v_27.n v_27.c)]) (fun (v_37 : Sl) (h : Heap) =>
  derefK w0 (fun (a_38 : Addr) =>
  fldK ((some a_38)) 2 (fun (a_39 : Addr) =>
  storeK h ((some a_39)) (.slice v_37.a v_37.n v_37.c) (fun (h : Heap) =>
  X_13 (IntKind.i64.wrap (s_12 + 1)) h)))) h))))))) h))))
  (fun J_40 =>
  fldK r_1 0 (fun (a_41 : Addr) =>
  loadK .any h ((some a_41)) (fun (v_42 : Value) =>
  eqK Try.prog (binSem .neq T.func163 (.tmp 32) (.const Value.nilFunc) v_42 Value.nilFunc) (fun (v_43 : Bool) =>
  if v_43 = true then
  fldK r_1 0 (fun (a_44 : Addr) =>
  loadK .any h ((some a_44)) (fun (v_45 : Value) =>
  loadAggK (sizeOfT Try.prog T.api_Tag) h x_16 (fun (v_46 : Array Value) =>
  callV Try.prog .bool v_45 #[(.agg v_46)] (fun (v_47 : Bool) (h : Heap) =>
  J_40 (!v_47) h) h)))
  else
  J_40 false h))))) h))))))
  else
  J_11 () h) 0 h))))))
def codec_put_api_Tag.ann : Ann := (.seq .leaf (.seq (.seq .leaf (.cond (.seq .leaf .leaf) .leaf)) (.join [] (.seq .leaf (.block (.loop [(22, (.int .i64))] (.seq .leaf (.seq (.cond .leaf .leaf) (.seq (.block (.seq .leaf (.seq (.seq .leaf (.cond .leaf .leaf)) (.seq (.join [(40, .bool)] .leaf (.cond (.seq .leaf .leaf) .leaf)) (.seq .leaf (.seq (.seq .leaf (.cond (.seq .leaf .leaf) .leaf)) .leaf)))))) .leaf)))))) (.seq .leaf .leaf))))
theorem codec_put_api_Tag.eq (w0 : Option Addr) (r1 : Array Value) (l2 : Sl) (R : Value → Heap → Prop) (h : Heap) : codec_put_api_Tag.body w0 r1 l2 R h = evFn Try.prog Try.f85 codec_put_api_Tag.ann [(.pointer w0), (.agg r1), (.slice l2.a l2.n l2.c)] R h := by kernel_rfl
theorem codec_put_api_Tag.calls {w0 : Option Addr} {r1 : Array Value} {l2 : Sl} {R : Value → Heap → Prop} {h : Heap} (H : codec_put_api_Tag.body w0 r1 l2 R h) : HC Try.prog F.codec_put_api_Tag #[(.pointer w0), (.agg r1), (.slice l2.a l2.n l2.c)] R h :=
  evFn_sound mixed Try.func85 (by kernel_rfl) (codec_put_api_Tag.eq w0 r1 l2 R h ▸ H)

/-! (*zugzwang/codec.Writer).Tag$1 -/
def codec_Writer_Tag_1.body (t0 : Array Value) (R : Value → Heap → Prop) (h : Heap) : Prop :=
  newK h t0 T.api_Tag (fun (t_1 : Option Addr) (h : Heap) =>
  sliceArrK t_1 32 none none none (sizeOfT Try.prog T.uint8) (fun (v_2 : Sl) =>
  R (.slice v_2.a v_2.n v_2.c) h))
def codec_Writer_Tag_1.ann : Ann := (.seq .leaf (.seq .leaf .leaf))
theorem codec_Writer_Tag_1.eq (t0 : Array Value) (R : Value → Heap → Prop) (h : Heap) : codec_Writer_Tag_1.body t0 R h = evFn Try.prog Try.f86 codec_Writer_Tag_1.ann [(.agg t0)] R h := by kernel_rfl
theorem codec_Writer_Tag_1.calls {t0 : Array Value} {R : Value → Heap → Prop} {h : Heap} (H : codec_Writer_Tag_1.body t0 R h) : HC Try.prog F.codec_Writer_Tag_1 #[(.agg t0)] R h :=
  evFn_sound mixed Try.func86 (by kernel_rfl) (codec_Writer_Tag_1.eq t0 R h ▸ H)

/-! (*zugzwang/codec.Writer).Tag -/
def codec_Writer_Tag.body (w0 : Option Addr) (l1 : Sl) (R : Value → Heap → Prop) (h : Heap) : Prop :=
  buildK Try.prog (Instr.build T.codec_ruleaapi_Tag #[(1, ((Value.func (.func F.codec_Writer_Tag_1) #[] #[])))]) (fun (v_1 : Array Value) =>
  callK Try.prog (.int .i64) F.codec_put_api_Tag #[(.pointer w0), (.agg v_1), (.slice l1.a l1.n l1.c)] (fun (v_2 : Int) (h : Heap) =>
  R (.int .i64 v_2) h) h)
def codec_Writer_Tag.ann : Ann := (.seq .leaf (.seq .leaf .leaf))
theorem codec_Writer_Tag.eq (w0 : Option Addr) (l1 : Sl) (R : Value → Heap → Prop) (h : Heap) : codec_Writer_Tag.body w0 l1 R h = evFn Try.prog Try.f77 codec_Writer_Tag.ann [(.pointer w0), (.slice l1.a l1.n l1.c)] R h := by kernel_rfl
theorem codec_Writer_Tag.calls {w0 : Option Addr} {l1 : Sl} {R : Value → Heap → Prop} {h : Heap} (H : codec_Writer_Tag.body w0 l1 R h) : HC Try.prog F.codec_Writer_Tag #[(.pointer w0), (.slice l1.a l1.n l1.c)] R h :=
  evFn_sound mixed Try.func77 (by kernel_rfl) (codec_Writer_Tag.eq w0 l1 R h ▸ H)

/-! (*zugzwang/codec.Writer).Out -/
def codec_Writer_Out.body (w0 : Option Addr) (R : Value → Heap → Prop) (h : Heap) : Prop :=
  joinW (fun (s_1 : Bool) (h : Heap) =>
  if s_1 = true then
  R (.tuple #[(.slice none 0 0), (.int .i64 1)]) h
  else
  derefK w0 (fun (a_2 : Addr) =>
  fldK ((some a_2)) 0 (fun (a_3 : Addr) =>
  callK Try.prog .bool F.codec_state_sound #[(.pointer ((some a_3)))] (fun (v_4 : Bool) (h : Heap) =>
  if (!v_4) = true then
  derefK w0 (fun (a_5 : Addr) =>
  fldK ((some a_5)) 0 (fun (a_6 : Addr) =>
  fldK ((some a_6)) 1 (fun (a_7 : Addr) =>
  loadK (.int .i64) h ((some a_7)) (fun (v_8 : Int) =>
  R (.tuple #[(.slice none 0 0), (.int .i64 v_8)]) h))))
  else
  derefK w0 (fun (a_9 : Addr) =>
  fldK ((some a_9)) 2 (fun (a_10 : Addr) =>
  loadK .slice h ((some a_10)) (fun (v_11 : Sl) =>
  callK Try.prog .slice F.slices_Clone_byte_byte #[(.slice v_11.a v_11.n v_11.c)] (fun (v_12 : Sl) (h : Heap) =>
  R (.tuple #[(.slice v_12.a v_12.n v_12.c), (.int .i64 0)]) h) h)))) h)))
  (fun J_13 =>
  if w0.isNone = true then
  J_13 true h
  else
  derefK w0 (fun (a_14 : Addr) =>
  fldK ((some a_14)) 0 (fun (a_15 : Addr) =>
  fldK ((some a_15)) 0 (fun (a_16 : Addr) =>
  loadK .bool h ((some a_16)) (fun (v_17 : Bool) =>
  J_13 (!v_17) h)))))
def codec_Writer_Out.ann : Ann := (.seq .leaf (.seq (.block (.join [(4, .bool)] .leaf (.cond (.seq .leaf .leaf) (.seq .leaf (.cond (.seq .leaf .leaf) .leaf))))) (.seq .leaf .leaf)))
theorem codec_Writer_Out.eq (w0 : Option Addr) (R : Value → Heap → Prop) (h : Heap) : codec_Writer_Out.body w0 R h = evFn Try.prog Try.f78 codec_Writer_Out.ann [(.pointer w0)] R h := by kernel_rfl
theorem codec_Writer_Out.calls {w0 : Option Addr} {R : Value → Heap → Prop} {h : Heap} (H : codec_Writer_Out.body w0 R h) : HC Try.prog F.codec_Writer_Out #[(.pointer w0)] R h :=
  evFn_sound mixed Try.func78 (by kernel_rfl) (codec_Writer_Out.eq w0 R h ▸ H)

/-! (zugzwang/commit.text).rows -/
def commit_text_rows.body (t0 : Array Value) (nonce1 : Array Value) (rows2 : Sl) (R : Value → Heap → Prop) (h : Heap) : Prop :=
  newK h t0 T.commit_text (fun (t_1 : Option Addr) (h : Heap) =>
  newK h nonce1 T.api_Tag (fun (nonce_2 : Option Addr) (h : Heap) =>
  fldK t_1 0 (fun (a_3 : Addr) =>
  loadK .ptr h ((some a_3)) (fun (v_4 : Option Addr) =>
  callK Try.prog (.int .i64) F.codec_Writer_Run #[(.pointer v_4), (.slice rows2.a rows2.n rows2.c)] (fun (v_5 : Int) (h : Heap) =>
  fldK t_1 0 (fun (a_6 : Addr) =>
  loadK .ptr h ((some a_6)) (fun (v_7 : Option Addr) =>
  loadAggK (sizeOfT Try.prog T.api_Tag) h nonce_2 (fun (v_8 : Array Value) =>
  opK Try.prog .slice (Instr.buildSlice T.sl_api_Tag 1 #[(0, (.agg v_8))]) (fun (v_9 : Sl) (h : Heap) =>
  callK Try.prog (.int .i64) F.codec_Writer_Tag #[(.pointer v_7), (.slice v_9.a v_9.n v_9.c)] (fun (v_10 : Int) (h : Heap) =>
  fldK t_1 0 (fun (a_11 : Addr) =>
  loadK .ptr h ((some a_11)) (fun (v_12 : Option Addr) =>
  callK Try.prog (Kd.pair .slice (.int .i64)) F.codec_Writer_Out #[(.pointer v_12)] (fun (v_13 : Sl × Int) (h : Heap) =>
  R (.tuple #[(.slice v_13.1.a v_13.1.n v_13.1.c), (.int .i64 v_13.2)]) h) h))) h) h)))) h))))
def commit_text_rows.ann : Ann := (.seq .leaf (.seq .leaf (.seq .leaf (.seq .leaf .leaf))))
theorem commit_text_rows.eq (t0 : Array Value) (nonce1 : Array Value) (rows2 : Sl) (R : Value → Heap → Prop) (h : Heap) : commit_text_rows.body t0 nonce1 rows2 R h = evFn Try.prog Try.f65 commit_text_rows.ann [(.agg t0), (.agg nonce1), (.slice rows2.a rows2.n rows2.c)] R h := by kernel_rfl
theorem commit_text_rows.calls {t0 : Array Value} {nonce1 : Array Value} {rows2 : Sl} {R : Value → Heap → Prop} {h : Heap} (H : commit_text_rows.body t0 nonce1 rows2 R h) : HC Try.prog F.commit_text_rows #[(.agg t0), (.agg nonce1), (.slice rows2.a rows2.n rows2.c)] R h :=
  evFn_sound mixed Try.func65 (by kernel_rfl) (commit_text_rows.eq t0 nonce1 rows2 R h ▸ H)

/-! zugzwang/commit.Cover -/
def commit_Cover.body (m0 : Option Addr) (nonce1 : Array Value) (rows2 : Sl) (R : Value → Heap → Prop) (h : Heap) : Prop :=
  newK h nonce1 T.api_Tag (fun (nonce_1 : Option Addr) (h : Heap) =>
  newK h (zerosOf Try.prog T.api_Tag) T.api_Tag (fun (t_2 : Option Addr) (h : Heap) =>
  callK Try.prog .ptr F.tags_Maker_Copy #[(.pointer m0)] (fun (v_3 : Option Addr) (h : Heap) =>
  if v_3.isNone = true then
  loadAggK (sizeOfT Try.prog T.api_Tag) h t_2 (fun (v_4 : Array Value) =>
  storeAggK (sizeOfT Try.prog T.api_Tag) h t_2 v_4 (fun (h : Heap) =>
  quietK Try.prog .agg (Instr.loadAt T.api_Tag (.pointer t_2)) (fun (r_5 : Array Value) =>
  R (.tuple #[(.agg r_5), (.int .i64 1)]) h) h))
  else
  loadAggK (sizeOfT Try.prog T.api_Tag) h nonce_1 (fun (v_6 : Array Value) =>
  callK Try.prog .ptr F.codec_New #[] (fun (v_7 : Option Addr) (h : Heap) =>
  stillAggK (sizeOfT Try.prog T.api_Tag) h nonce_1 v_6 ∧
  buildK Try.prog (Instr.build T.commit_text #[(0, (.pointer v_7))]) (fun (v_8 : Array Value) =>
  callK Try.prog (Kd.pair .slice (.int .i64)) F.commit_text_rows #[(.agg v_8), (.agg v_6), (.slice rows2.a rows2.n rows2.c)] (fun (v_9 : Sl × Int) (h : Heap) =>
  if (v_9.2 != 0) = true then
  loadAggK (sizeOfT Try.prog T.api_Tag) h t_2 (fun (v_10 : Array Value) =>
  storeAggK (sizeOfT Try.prog T.api_Tag) h t_2 v_10 (fun (h : Heap) =>
  quietK Try.prog .agg (Instr.loadAt T.api_Tag (.pointer t_2)) (fun (r_11 : Array Value) =>
  R (.tuple #[(.agg r_11), (.int .i64 v_9.2)]) h) h))
  else
  newSlK h 4 #[(.int .u8 104), (.int .u8 105), (.int .u8 100), (.int .u8 101)] T.uint8 (fun (v_12 : Sl) (h : Heap) =>
  opK Try.prog .slice (convert T.sl_uint8 T.sl_uint8 (.slice v_12.a v_12.n v_12.c)) (fun (v_13 : Sl) (h : Heap) =>
  newSlK h 2 #[(.slice v_13.a v_13.n v_13.c), (.slice v_9.1.a v_9.1.n v_9.1.c)] T.sl_uint8 (fun (v_14 : Sl) (h : Heap) =>
  callK Try.prog .agg F.tags_Maker_Sum #[(.pointer m0), (.slice v_14.a v_14.n v_14.c)] (fun (v_15 : Array Value) (h : Heap) =>
  storeAggK (sizeOfT Try.prog T.api_Tag) h t_2 v_15 (fun (h : Heap) =>
  quietK Try.prog .agg (Instr.loadAt T.api_Tag (.pointer t_2)) (fun (r_16 : Array Value) =>
  R (.tuple #[(.agg r_16), (.int .i64 0)]) h) h)) h)) h)) h)) h)) h))
def commit_Cover.ann : Ann := (.seq .leaf (.seq (.seq .leaf (.cond (.seq .leaf .leaf) .leaf)) (.seq (.any (.loc 3 (.st 2 1008 (.last 0 (.loc 1 (.last 4 (.loc 5 (.loc 6 (.loc 7 (.loc 8 (.loc 9 .done))))))))))) (.seq (.seq .leaf (.cond (.seq .leaf .leaf) .leaf)) (.seq .leaf .leaf)))))
theorem commit_Cover.eq (m0 : Option Addr) (nonce1 : Array Value) (rows2 : Sl) (R : Value → Heap → Prop) (h : Heap) : commit_Cover.body m0 nonce1 rows2 R h = evFn Try.prog Try.f52 commit_Cover.ann [(.pointer m0), (.agg nonce1), (.slice rows2.a rows2.n rows2.c)] R h := by kernel_rfl
theorem commit_Cover.calls {m0 : Option Addr} {nonce1 : Array Value} {rows2 : Sl} {R : Value → Heap → Prop} {h : Heap} (H : commit_Cover.body m0 nonce1 rows2 R h) : HC Try.prog F.commit_Cover #[(.pointer m0), (.agg nonce1), (.slice rows2.a rows2.n rows2.c)] R h :=
  evFn_sound mixed Try.func52 (by kernel_rfl) (commit_Cover.eq m0 nonce1 rows2 R h ▸ H)

/-! zugzwang/commit.some -/
def commit_some.body (m0 : Option Addr) (is1 : Bool) (nonce2 : Array Value) (rows3 : Sl) (R : Value → Heap → Prop) (h : Heap) : Prop :=
  newK h nonce2 T.api_Tag (fun (nonce_1 : Option Addr) (h : Heap) =>
  newK h (zerosOf Try.prog T.api_Tag) T.api_Tag (fun (t_2 : Option Addr) (h : Heap) =>
  callK Try.prog .ptr F.tags_Maker_Copy #[(.pointer m0)] (fun (v_3 : Option Addr) (h : Heap) =>
  if v_3.isNone = true then
  loadAggK (sizeOfT Try.prog T.api_Tag) h t_2 (fun (v_4 : Array Value) =>
  storeAggK (sizeOfT Try.prog T.api_Tag) h t_2 v_4 (fun (h : Heap) =>
  quietK Try.prog .agg (Instr.loadAt T.api_Tag (.pointer t_2)) (fun (r_5 : Array Value) =>
  R (.tuple #[(.agg r_5), (.int .i64 1)]) h) h))
  else
  if (!is1) = true then
  loadAggK (sizeOfT Try.prog T.api_Tag) h t_2 (fun (v_6 : Array Value) =>
  storeAggK (sizeOfT Try.prog T.api_Tag) h t_2 v_6 (fun (h : Heap) =>
  quietK Try.prog .agg (Instr.loadAt T.api_Tag (.pointer t_2)) (fun (r_7 : Array Value) =>
  R (.tuple #[(.agg r_7), (.int .i64 2)]) h) h))
  else
  loadAggK (sizeOfT Try.prog T.api_Tag) h nonce_1 (fun (v_8 : Array Value) =>
  callK Try.prog (Kd.pair .agg (.int .i64)) F.commit_Cover #[(.pointer m0), (.agg v_8), (.slice rows3.a rows3.n rows3.c)] (fun (v_9 : Array Value × Int) (h : Heap) =>
  storeAggK (sizeOfT Try.prog T.api_Tag) h t_2 v_9.1 (fun (h : Heap) =>
  quietK Try.prog .agg (Instr.loadAt T.api_Tag (.pointer t_2)) (fun (r_10 : Array Value) =>
  R (.tuple #[(.agg r_10), (.int .i64 v_9.2)]) h) h)) h)) h))
def commit_some.ann : Ann := (.seq .leaf (.seq (.block (.seq .leaf (.cond (.seq .leaf .leaf) (.seq .leaf (.cond (.seq .leaf .leaf) .leaf))))) (.seq .leaf .leaf)))
theorem commit_some.eq (m0 : Option Addr) (is1 : Bool) (nonce2 : Array Value) (rows3 : Sl) (R : Value → Heap → Prop) (h : Heap) : commit_some.body m0 is1 nonce2 rows3 R h = evFn Try.prog Try.f31 commit_some.ann [(.pointer m0), (.bool is1), (.agg nonce2), (.slice rows3.a rows3.n rows3.c)] R h := by kernel_rfl
theorem commit_some.calls {m0 : Option Addr} {is1 : Bool} {nonce2 : Array Value} {rows3 : Sl} {R : Value → Heap → Prop} {h : Heap} (H : commit_some.body m0 is1 nonce2 rows3 R h) : HC Try.prog F.commit_some #[(.pointer m0), (.bool is1), (.agg nonce2), (.slice rows3.a rows3.n rows3.c)] R h :=
  evFn_sound mixed Try.func31 (by kernel_rfl) (commit_some.eq m0 is1 nonce2 rows3 R h ▸ H)

/-! zugzwang/commit.Move -/
def commit_Move.body (m0 : Option Addr) (game1 : Array Value) (number2 : Int) (x3 : Array Value) (nonce4 : Array Value) (R : Value → Heap → Prop) (h : Heap) : Prop :=
  newK h game1 T.api_Tag (fun (game_1 : Option Addr) (h : Heap) =>
  newK h x3 T.api_Move (fun (x_2 : Option Addr) (h : Heap) =>
  newK h nonce4 T.api_Tag (fun (nonce_3 : Option Addr) (h : Heap) =>
  newK h (zerosOf Try.prog T.api_Tag) T.api_Tag (fun (v_4 : Option Addr) (h : Heap) =>
  joinW (fun (s_5 : Bool) (h : Heap) =>
  shiftK 24
  (shiftK 16
  (shiftK 8
  (newSlK h 4 #[(.int .u8 (IntKind.u8.wrap (Int.fdiv number2 (2 ^ min (Int.toNat 24) (IntKind.bits .i64))))), (.int .u8 (IntKind.u8.wrap (Int.fdiv number2 (2 ^ min (Int.toNat 16) (IntKind.bits .i64))))), (.int .u8 (IntKind.u8.wrap (Int.fdiv number2 (2 ^ min (Int.toNat 8) (IntKind.bits .i64))))), (.int .u8 (IntKind.u8.wrap number2))] T.uint8 (fun (v_6 : Sl) (h : Heap) =>
  sliceArrK game_1 32 none none none (sizeOfT Try.prog T.uint8) (fun (v_7 : Sl) =>
  fldK x_2 0 (fun (a_8 : Addr) =>
  fldK x_2 1 (fun (a_9 : Addr) =>
  fldK x_2 2 (fun (a_10 : Addr) =>
  loadAggK (sizeOfT Try.prog T.api_Tag) h nonce_3 (fun (v_11 : Array Value) =>
  loadK (.int .i64) h ((some a_8)) (fun (v_12 : Int) =>
  loadK (.int .i64) h ((some a_9)) (fun (v_13 : Int) =>
  loadK (.int .i64) h ((some a_10)) (fun (v_14 : Int) =>
  ((newSlK h 4 #[(.int .u8 109), (.int .u8 111), (.int .u8 118), (.int .u8 101)] T.uint8 (fun (v_15 : Sl) (h : Heap) =>
  ((opK Try.prog .slice (convert T.sl_uint8 T.sl_uint8 (.slice v_15.a v_15.n v_15.c)) (fun (v_16 : Sl) (h : Heap) =>
  newSlK h 3 #[(.int .u8 (IntKind.u8.wrap v_12)), (.int .u8 (IntKind.u8.wrap v_13)), (.int .u8 (IntKind.u8.wrap v_14))] T.uint8 (fun (v_17 : Sl) (h : Heap) =>
  newSlK h 4 #[(.slice v_16.a v_16.n v_16.c), (.slice v_7.a v_7.n v_7.c), (.slice v_6.a v_6.n v_6.c), (.slice v_17.a v_17.n v_17.c)] T.sl_uint8 (fun (v_18 : Sl) (h : Heap) =>
  callK Try.prog (Kd.pair .agg (.int .i64)) F.commit_some #[(.pointer m0), (.bool s_5), (.agg v_11), (.slice v_18.a v_18.n v_18.c)] (fun (v_19 : Array Value × Int) (h : Heap) =>
  storeAggK (sizeOfT Try.prog T.api_Tag) h v_4 v_19.1 (fun (h : Heap) =>
  quietK Try.prog .agg (Instr.loadAt T.api_Tag (.pointer v_4)) (fun (r_20 : Array Value) =>
  R (.tuple #[(.agg r_20), (.int .i64 v_19.2)]) h) h)) h))) h) ∧
  (newSlK h 3 #[(.int .u8 (IntKind.u8.wrap v_12)), (.int .u8 (IntKind.u8.wrap v_13)), (.int .u8 (IntKind.u8.wrap v_14))] T.uint8 (fun (v_21 : Sl) (h : Heap) =>
  opK Try.prog .slice (convert T.sl_uint8 T.sl_uint8 (.slice v_15.a v_15.n v_15.c)) (fun (v_22 : Sl) (h : Heap) =>
  newSlK h 4 #[(.slice v_22.a v_22.n v_22.c), (.slice v_7.a v_7.n v_7.c), (.slice v_6.a v_6.n v_6.c), (.slice v_21.a v_21.n v_21.c)] T.sl_uint8 (fun (v_23 : Sl) (h : Heap) =>
  callK Try.prog (Kd.pair .agg (.int .i64)) F.commit_some #[(.pointer m0), (.bool s_5), (.agg v_11), (.slice v_23.a v_23.n v_23.c)] (fun (v_24 : Array Value × Int) (h : Heap) =>
  storeAggK (sizeOfT Try.prog T.api_Tag) h v_4 v_24.1 (fun (h : Heap) =>
  quietK Try.prog .agg (Instr.loadAt T.api_Tag (.pointer v_4)) (fun (r_25 : Array Value) =>
  R (.tuple #[(.agg r_25), (.int .i64 v_24.2)]) h) h)) h)) h))))) ∧
  (newSlK h 3 #[(.int .u8 (IntKind.u8.wrap v_12)), (.int .u8 (IntKind.u8.wrap v_13)), (.int .u8 (IntKind.u8.wrap v_14))] T.uint8 (fun (v_26 : Sl) (h : Heap) =>
  newSlK h 4 #[(.int .u8 109), (.int .u8 111), (.int .u8 118), (.int .u8 101)] T.uint8 (fun (v_27 : Sl) (h : Heap) =>
  opK Try.prog .slice (convert T.sl_uint8 T.sl_uint8 (.slice v_27.a v_27.n v_27.c)) (fun (v_28 : Sl) (h : Heap) =>
  newSlK h 4 #[(.slice v_28.a v_28.n v_28.c), (.slice v_7.a v_7.n v_7.c), (.slice v_6.a v_6.n v_6.c), (.slice v_26.a v_26.n v_26.c)] T.sl_uint8 (fun (v_29 : Sl) (h : Heap) =>
  callK Try.prog (Kd.pair .agg (.int .i64)) F.commit_some #[(.pointer m0), (.bool s_5), (.agg v_11), (.slice v_29.a v_29.n v_29.c)] (fun (v_30 : Array Value × Int) (h : Heap) =>
  storeAggK (sizeOfT Try.prog T.api_Tag) h v_4 v_30.1 (fun (h : Heap) =>
  quietK Try.prog .agg (Instr.loadAt T.api_Tag (.pointer v_4)) (fun (r_31 : Array Value) =>
  R (.tuple #[(.agg r_31), (.int .i64 v_30.2)]) h) h)) h)) h)))))))))))))))))
  (fun J_32 =>
  if (decide (number2 ≥ 0)) = true then
  if (decide (number2 ≤ 4294967295)) = true then
  loadAggK (sizeOfT Try.prog T.api_Move) h x_2 (fun (v_33 : Array Value) =>
  buildK Try.prog (Instr.build T.api_Body #[(0, (.int .i64 1)), (1, (.agg v_33))]) (fun (v_34 : Array Value) =>
  callK Try.prog .bool F.msg_Body #[(.agg v_34)] (fun (v_35 : Bool) (h : Heap) =>
  J_32 v_35 h) h))
  else
  J_32 false h
  else
  J_32 false h)))))
def commit_Move.ann : Ann := (.seq .leaf (.join [(12, .bool)] .leaf (.seq .leaf (.seq (.any (.loc 0 (.loc 1 (.loc 5 (.loc 6 (.loc 7 (.loc 10 (.loc 13 (.st 2 8126464 (.st 8 8323584 (.loc 9 (.st 11 8327168 (.loc 12 (.st 14 8355840 (.loc 15 (.alt 3 (.alt 4 (.last 16 (.last 17 (.last 18 (.loc 19 (.loc 20 (.last 21 (.loc 22 .done))))))) (.last 16 (.last 4 (.last 17 (.last 18 (.loc 19 (.loc 20 (.last 21 (.loc 22 .done))))))))) (.last 16 (.last 3 (.last 4 (.last 17 (.last 18 (.loc 19 (.loc 20 (.last 21 (.loc 22 .done))))))))))))))))))))))))) .leaf))))
theorem commit_Move.eq (m0 : Option Addr) (game1 : Array Value) (number2 : Int) (x3 : Array Value) (nonce4 : Array Value) (R : Value → Heap → Prop) (h : Heap) : commit_Move.body m0 game1 number2 x3 nonce4 R h = evFn Try.prog Try.f18 commit_Move.ann [(.pointer m0), (.agg game1), (.int .i64 number2), (.agg x3), (.agg nonce4)] R h := by kernel_rfl
theorem commit_Move.calls {m0 : Option Addr} {game1 : Array Value} {number2 : Int} {x3 : Array Value} {nonce4 : Array Value} {R : Value → Heap → Prop} {h : Heap} (H : commit_Move.body m0 game1 number2 x3 nonce4 R h) : HC Try.prog F.commit_Move #[(.pointer m0), (.agg game1), (.int .i64 number2), (.agg x3), (.agg nonce4)] R h :=
  evFn_sound mixed Try.func18 (by kernel_rfl) (commit_Move.eq m0 game1 number2 x3 nonce4 R h ▸ H)

/-! zugzwang/seal.Make -/
def seal_Make.body (m0 : Option Addr) (game1 : Array Value) (number2 : Int) (x3 : Array Value) (nonce4 : Array Value) (R : Value → Heap → Prop) (h : Heap) : Prop :=
  newK h game1 T.api_Tag (fun (game_1 : Option Addr) (h : Heap) =>
  newK h x3 T.api_Move (fun (x_2 : Option Addr) (h : Heap) =>
  newK h nonce4 T.api_Tag (fun (nonce_3 : Option Addr) (h : Heap) =>
  newK h (zerosOf Try.prog T.api_Body) T.api_Body (fun (seal_4 : Option Addr) (h : Heap) =>
  newK h (zerosOf Try.prog T.api_Body) T.api_Body (fun (open_5 : Option Addr) (h : Heap) =>
  loadAggK (sizeOfT Try.prog T.api_Tag) h game_1 (fun (v_6 : Array Value) =>
  loadAggK (sizeOfT Try.prog T.api_Move) h x_2 (fun (v_7 : Array Value) =>
  loadAggK (sizeOfT Try.prog T.api_Tag) h nonce_3 (fun (v_8 : Array Value) =>
  callK Try.prog (Kd.pair .agg (.int .i64)) F.commit_Move #[(.pointer m0), (.agg v_6), (.int .i64 number2), (.agg v_7), (.agg v_8)] (fun (v_9 : Array Value × Int) (h : Heap) =>
  newK h (zerosOf Try.prog T.api_Tag) T.api_Tag (fun (t_10 : Option Addr) (h : Heap) =>
  storeAggK (sizeOfT Try.prog T.api_Tag) h t_10 v_9.1 (fun (h : Heap) =>
  if (v_9.2 != 0) = true then
  loadAggK (sizeOfT Try.prog T.api_Body) h seal_4 (fun (v_11 : Array Value) =>
  loadAggK (sizeOfT Try.prog T.api_Body) h open_5 (fun (v_12 : Array Value) =>
  storeAggK (sizeOfT Try.prog T.api_Body) h seal_4 v_11 (fun (h : Heap) =>
  stillAggK (sizeOfT Try.prog T.api_Body) h open_5 v_12 ∧
  storeAggK (sizeOfT Try.prog T.api_Body) h open_5 v_12 (fun (h : Heap) =>
  quietK Try.prog .agg (Instr.loadAt T.api_Body (.pointer seal_4)) (fun (r_13 : Array Value) =>
  quietK Try.prog .agg (Instr.loadAt T.api_Body (.pointer open_5)) (fun (r_14 : Array Value) =>
  R (.tuple #[(.agg r_13), (.agg r_14), (.int .i64 v_9.2)]) h) h) h))))
  else
  loadAggK (sizeOfT Try.prog T.api_Tag) h t_10 (fun (v_15 : Array Value) =>
  buildK Try.prog (Instr.build T.api_Body #[(0, (.int .i64 5)), (4, (.agg v_15))]) (fun (v_16 : Array Value) =>
  loadAggK (sizeOfT Try.prog T.api_Move) h x_2 (fun (v_17 : Array Value) =>
  loadAggK (sizeOfT Try.prog T.api_Tag) h nonce_3 (fun (v_18 : Array Value) =>
  buildK Try.prog (Instr.build T.api_Body #[(0, (.int .i64 7)), (1, (.agg v_17)), (5, (.agg v_18))]) (fun (v_19 : Array Value) =>
  storeAggK (sizeOfT Try.prog T.api_Body) h seal_4 v_16 (fun (h : Heap) =>
  stillAggK (sizeOfT Try.prog T.api_Tag) h nonce_3 v_18 ∧
  stillAggK (sizeOfT Try.prog T.api_Move) h x_2 v_17 ∧
  storeAggK (sizeOfT Try.prog T.api_Body) h open_5 v_19 (fun (h : Heap) =>
  quietK Try.prog .agg (Instr.loadAt T.api_Body (.pointer seal_4)) (fun (r_20 : Array Value) =>
  quietK Try.prog .agg (Instr.loadAt T.api_Body (.pointer open_5)) (fun (r_21 : Array Value) =>
  R (.tuple #[(.agg r_20), (.agg r_21), (.int .i64 0)]) h) h) h)))))))))) h))))))))
def seal_Make.ann : Ann := (.seq .leaf (.seq .leaf (.seq (.seq .leaf (.cond (.seq (.any (.loc 2 (.st 0 56 (.st 1 48 (.last 3 (.last 4 (.loc 5 .done))))))) .leaf) .leaf)) (.seq (.any (.st 0 226 (.loc 1 (.st 2 208 (.st 3 208 (.loc 4 (.last 5 (.last 6 (.loc 7 .done))))))))) .leaf))))
theorem seal_Make.eq (m0 : Option Addr) (game1 : Array Value) (number2 : Int) (x3 : Array Value) (nonce4 : Array Value) (R : Value → Heap → Prop) (h : Heap) : seal_Make.body m0 game1 number2 x3 nonce4 R h = evFn Try.prog Try.f8 seal_Make.ann [(.pointer m0), (.agg game1), (.int .i64 number2), (.agg x3), (.agg nonce4)] R h := by kernel_rfl
theorem seal_Make.calls {m0 : Option Addr} {game1 : Array Value} {number2 : Int} {x3 : Array Value} {nonce4 : Array Value} {R : Value → Heap → Prop} {h : Heap} (H : seal_Make.body m0 game1 number2 x3 nonce4 R h) : HC Try.prog F.seal_Make #[(.pointer m0), (.agg game1), (.int .i64 number2), (.agg x3), (.agg nonce4)] R h :=
  evFn_sound mixed Try.func8 (by kernel_rfl) (seal_Make.eq m0 game1 number2 x3 nonce4 R h ▸ H)

/-! (*zugzwang/tags.Maker).Draw -/
def tags_Maker_Draw.body (m0 : Option Addr) (k1 : Int) (R : Value → Heap → Prop) (h : Heap) : Prop :=
  newK h (zerosOf Try.prog T.api_Tag) T.api_Tag (fun (v_1 : Option Addr) (h : Heap) =>
  callK Try.prog .bool F.tags_Maker_there #[(.pointer m0)] (fun (v_2 : Bool) (h : Heap) =>
  if (!v_2) = true then
  buildK Try.prog (Instr.build T.api_Tag #[]) (fun (v_3 : Array Value) =>
  storeAggK (sizeOfT Try.prog T.api_Tag) h v_1 v_3 (fun (h : Heap) =>
  quietK Try.prog .agg (Instr.loadAt T.api_Tag (.pointer v_1)) (fun (r_4 : Array Value) =>
  R (.agg r_4) h) h))
  else
  derefK m0 (fun (a_5 : Addr) =>
  fldK ((some a_5)) 1 (fun (a_6 : Addr) =>
  loadK .bool h ((some a_6)) (fun (v_7 : Bool) =>
  if v_7 = true then
  derefK m0 (fun (a_8 : Addr) =>
  fldK ((some a_8)) 2 (fun (a_9 : Addr) =>
  loadK .slice h ((some a_9)) (fun (v_10 : Sl) =>
  ((newSlK h 4 #[(.int .u8 100), (.int .u8 114), (.int .u8 97), (.int .u8 119)] T.uint8 (fun (v_11 : Sl) (h : Heap) =>
  ((opK Try.prog .slice (convert T.sl_uint8 T.sl_uint8 (.slice v_11.a v_11.n v_11.c)) (fun (v_12 : Sl) (h : Heap) =>
  callK Try.prog .slice F.tags_eight #[(.int .i64 k1)] (fun (v_13 : Sl) (h : Heap) =>
  stillK .slice h ((some a_9)) v_10 ∧
  newSlK h 3 #[(.slice v_12.a v_12.n v_12.c), (.slice v_10.a v_10.n v_10.c), (.slice v_13.a v_13.n v_13.c)] T.sl_uint8 (fun (v_14 : Sl) (h : Heap) =>
  callK Try.prog .agg F.digest_Of #[(.slice v_14.a v_14.n v_14.c)] (fun (v_15 : Array Value) (h : Heap) =>
  storeAggK (sizeOfT Try.prog T.api_Tag) h v_1 v_15 (fun (h : Heap) =>
  quietK Try.prog .agg (Instr.loadAt T.api_Tag (.pointer v_1)) (fun (r_16 : Array Value) =>
  R (.agg r_16) h) h)) h)) h) h) ∧
  (callK Try.prog .slice F.tags_eight #[(.int .i64 k1)] (fun (v_17 : Sl) (h : Heap) =>
  stillK .slice h ((some a_9)) v_10 ∧
  opK Try.prog .slice (convert T.sl_uint8 T.sl_uint8 (.slice v_11.a v_11.n v_11.c)) (fun (v_18 : Sl) (h : Heap) =>
  newSlK h 3 #[(.slice v_18.a v_18.n v_18.c), (.slice v_10.a v_10.n v_10.c), (.slice v_17.a v_17.n v_17.c)] T.sl_uint8 (fun (v_19 : Sl) (h : Heap) =>
  callK Try.prog .agg F.digest_Of #[(.slice v_19.a v_19.n v_19.c)] (fun (v_20 : Array Value) (h : Heap) =>
  storeAggK (sizeOfT Try.prog T.api_Tag) h v_1 v_20 (fun (h : Heap) =>
  quietK Try.prog .agg (Instr.loadAt T.api_Tag (.pointer v_1)) (fun (r_21 : Array Value) =>
  R (.agg r_21) h) h)) h)) h) h)))) ∧
  (callK Try.prog .slice F.tags_eight #[(.int .i64 k1)] (fun (v_22 : Sl) (h : Heap) =>
  stillK .slice h ((some a_9)) v_10 ∧
  newSlK h 4 #[(.int .u8 100), (.int .u8 114), (.int .u8 97), (.int .u8 119)] T.uint8 (fun (v_23 : Sl) (h : Heap) =>
  opK Try.prog .slice (convert T.sl_uint8 T.sl_uint8 (.slice v_23.a v_23.n v_23.c)) (fun (v_24 : Sl) (h : Heap) =>
  newSlK h 3 #[(.slice v_24.a v_24.n v_24.c), (.slice v_10.a v_10.n v_10.c), (.slice v_22.a v_22.n v_22.c)] T.sl_uint8 (fun (v_25 : Sl) (h : Heap) =>
  callK Try.prog .agg F.digest_Of #[(.slice v_25.a v_25.n v_25.c)] (fun (v_26 : Array Value) (h : Heap) =>
  storeAggK (sizeOfT Try.prog T.api_Tag) h v_1 v_26 (fun (h : Heap) =>
  quietK Try.prog .agg (Instr.loadAt T.api_Tag (.pointer v_1)) (fun (r_27 : Array Value) =>
  R (.agg r_27) h) h)) h)) h)) h)))))
  else
  derefK m0 (fun (a_28 : Addr) =>
  fldK ((some a_28)) 0 (fun (a_29 : Addr) =>
  loadAggK (sizeOfT Try.prog T.tags_book) h ((some a_29)) (fun (v_30 : Array Value) =>
  buildK Try.prog (Instr.build T.tags_thing #[(0, (.int .u8 100)), (3, (.int .i64 k1))]) (fun (v_31 : Array Value) =>
  callK Try.prog .agg F.tags_book_ask #[(.agg v_30), (.agg v_31)] (fun (v_32 : Array Value) (h : Heap) =>
  storeAggK (sizeOfT Try.prog T.api_Tag) h v_1 v_32 (fun (h : Heap) =>
  quietK Try.prog .agg (Instr.loadAt T.api_Tag (.pointer v_1)) (fun (r_33 : Array Value) =>
  R (.agg r_33) h) h)) h)))))))) h)
def tags_Maker_Draw.ann : Ann := (.seq .leaf (.seq (.block (.seq .leaf (.cond (.seq .leaf .leaf) (.seq .leaf (.cond (.seq (.any (.loc 2 (.loc 3 (.loc 4 (.loc 6 (.st 5 1792 (.alt 0 (.alt 1 (.last 7 (.last 8 (.last 9 (.last 10 .done)))) (.last 7 (.last 1 (.last 8 (.last 9 (.last 10 .done)))))) (.last 7 (.last 0 (.last 1 (.last 8 (.last 9 (.last 10 .done))))))))))))) .leaf) .leaf))))) (.seq .leaf .leaf)))
theorem tags_Maker_Draw.eq (m0 : Option Addr) (k1 : Int) (R : Value → Heap → Prop) (h : Heap) : tags_Maker_Draw.body m0 k1 R h = evFn Try.prog Try.f9 tags_Maker_Draw.ann [(.pointer m0), (.int .i64 k1)] R h := by kernel_rfl
theorem tags_Maker_Draw.calls {m0 : Option Addr} {k1 : Int} {R : Value → Heap → Prop} {h : Heap} (H : tags_Maker_Draw.body m0 k1 R h) : HC Try.prog F.tags_Maker_Draw #[(.pointer m0), (.int .i64 k1)] R h :=
  evFn_sound mixed Try.func9 (by kernel_rfl) (tags_Maker_Draw.eq m0 k1 R h ▸ H)

/-! zugzwang/seal.New -/
def seal_New.body (m0 : Option Addr) (game1 : Array Value) (R : Value → Heap → Prop) (h : Heap) : Prop :=
  newK h game1 T.api_Tag (fun (game_1 : Option Addr) (h : Heap) =>
  callK Try.prog .ptr F.tags_Maker_Copy #[(.pointer m0)] (fun (v_2 : Option Addr) (h : Heap) =>
  if v_2.isNone = true then
  R (.tuple #[(.pointer none), (.int .i64 1)]) h
  else
  loadAggK (sizeOfT Try.prog T.api_Tag) h game_1 (fun (v_3 : Array Value) =>
  buildK Try.prog (Instr.build T.seal_wax #[(0, (.pointer m0)), (1, (.agg v_3))]) (fun (v_4 : Array Value) =>
  buildK Try.prog (Instr.build T.seal_Envelope #[(0, (.agg v_4)), (1, (.int .i64 1))]) (fun (v_5 : Array Value) =>
  newK h v_5 T.seal_Envelope (fun (v_6 : Option Addr) (h : Heap) =>
  R (.tuple #[(.pointer v_6), (.int .i64 0)]) h))))) h)
def seal_New.ann : Ann := (.seq .leaf (.seq (.seq .leaf (.cond (.seq .leaf .leaf) .leaf)) (.seq .leaf .leaf)))
theorem seal_New.eq (m0 : Option Addr) (game1 : Array Value) (R : Value → Heap → Prop) (h : Heap) : seal_New.body m0 game1 R h = evFn Try.prog Try.f10 seal_New.ann [(.pointer m0), (.agg game1)] R h := by kernel_rfl
theorem seal_New.calls {m0 : Option Addr} {game1 : Array Value} {R : Value → Heap → Prop} {h : Heap} (H : seal_New.body m0 game1 R h) : HC Try.prog F.seal_New #[(.pointer m0), (.agg game1)] R h :=
  evFn_sound mixed Try.func10 (by kernel_rfl) (seal_New.eq m0 game1 R h ▸ H)

/-! (*zugzwang/seal.Envelope).made -/
def seal_Envelope_made.body (v0 : Option Addr) (R : Value → Heap → Prop) (h : Heap) : Prop :=
  if (!v0.isNone) = true then
  derefK v0 (fun (a_1 : Addr) =>
  fldK ((some a_1)) 66 (fun (a_2 : Addr) =>
  loadK (.int .i64) h ((some a_2)) (fun (v_3 : Int) =>
  R (.bool (v_3 != 0)) h)))
  else
  R (.bool false) h
def seal_Envelope_made.ann : Ann := (.seq .leaf (.seq .leaf .leaf))
theorem seal_Envelope_made.eq (v0 : Option Addr) (R : Value → Heap → Prop) (h : Heap) : seal_Envelope_made.body v0 R h = evFn Try.prog Try.f24 seal_Envelope_made.ann [(.pointer v0)] R h := by kernel_rfl
theorem seal_Envelope_made.calls {v0 : Option Addr} {R : Value → Heap → Prop} {h : Heap} (H : seal_Envelope_made.body v0 R h) : HC Try.prog F.seal_Envelope_made #[(.pointer v0)] R h :=
  evFn_sound mixed Try.func24 (by kernel_rfl) (seal_Envelope_made.eq v0 R h ▸ H)

/-! (*zugzwang/seal.Envelope).plain -/
def seal_Envelope_plain.body (v0 : Option Addr) (x1 : Array Value) (R : Value → Heap → Prop) (h : Heap) : Prop :=
  newK h x1 T.api_Entry (fun (v_1 : Option Addr) (h : Heap) =>
  R (.tuple #[]) h)
def seal_Envelope_plain.ann : Ann := .leaf
theorem seal_Envelope_plain.eq (v0 : Option Addr) (x1 : Array Value) (R : Value → Heap → Prop) (h : Heap) : seal_Envelope_plain.body v0 x1 R h = evFn Try.prog Try.f39 seal_Envelope_plain.ann [(.pointer v0), (.agg x1)] R h := by kernel_rfl
theorem seal_Envelope_plain.calls {v0 : Option Addr} {x1 : Array Value} {R : Value → Heap → Prop} {h : Heap} (H : seal_Envelope_plain.body v0 x1 R h) : HC Try.prog F.seal_Envelope_plain #[(.pointer v0), (.agg x1)] R h :=
  evFn_sound mixed Try.func39 (by kernel_rfl) (seal_Envelope_plain.eq v0 x1 R h ▸ H)

/-! (*zugzwang/seal.wax).put -/
def seal_wax_put.body (w0 : Option Addr) (number1 : Int) (t2 : Array Value) (R : Value → Heap → Prop) (h : Heap) : Prop :=
  newK h t2 T.api_Tag (fun (t_1 : Option Addr) (h : Heap) =>
  derefK w0 (fun (a_2 : Addr) =>
  fldK ((some a_2)) 33 (fun (a_3 : Addr) =>
  loadAggK (sizeOfT Try.prog T.api_Tag) h t_1 (fun (v_4 : Array Value) =>
  storeK h ((some a_3)) (.int .i64 number1) (fun (h : Heap) =>
  stillAggK (sizeOfT Try.prog T.api_Tag) h t_1 v_4 ∧
  derefK w0 (fun (a_5 : Addr) =>
  fldK ((some a_5)) 34 (fun (a_6 : Addr) =>
  storeAggK (sizeOfT Try.prog T.api_Tag) h ((some a_6)) v_4 (fun (h : Heap) =>
  R (.tuple #[]) h))))))))
def seal_wax_put.ann : Ann := (.seq .leaf (.any (.loc 0 (.loc 1 (.loc 2 (.loc 4 (.loc 5 (.st 3 896 (.last 6 (.loc 7 (.loc 8 (.last 9 .done))))))))))))
theorem seal_wax_put.eq (w0 : Option Addr) (number1 : Int) (t2 : Array Value) (R : Value → Heap → Prop) (h : Heap) : seal_wax_put.body w0 number1 t2 R h = evFn Try.prog Try.f59 seal_wax_put.ann [(.pointer w0), (.int .i64 number1), (.agg t2)] R h := by kernel_rfl
theorem seal_wax_put.calls {w0 : Option Addr} {number1 : Int} {t2 : Array Value} {R : Value → Heap → Prop} {h : Heap} (H : seal_wax_put.body w0 number1 t2 R h) : HC Try.prog F.seal_wax_put #[(.pointer w0), (.int .i64 number1), (.agg t2)] R h :=
  evFn_sound mixed Try.func59 (by kernel_rfl) (seal_wax_put.eq w0 number1 t2 R h ▸ H)

/-! (*zugzwang/seal.Envelope).sealed -/
def seal_Envelope_sealed.body (v0 : Option Addr) (e1 : Array Value) (R : Value → Heap → Prop) (h : Heap) : Prop :=
  newK h e1 T.api_Entry (fun (e_1 : Option Addr) (h : Heap) =>
  derefK v0 (fun (a_2 : Addr) =>
  fldK ((some a_2)) 66 (fun (a_3 : Addr) =>
  storeK h ((some a_3)) (.int .i64 2) (fun (h : Heap) =>
  derefK v0 (fun (a_4 : Addr) =>
  fldK ((some a_4)) 0 (fun (a_5 : Addr) =>
  fldK e_1 32 (fun (a_6 : Addr) =>
  fldK e_1 65 (fun (a_7 : Addr) =>
  fldK ((some a_7)) 6 (fun (a_8 : Addr) =>
  loadK (.int .i64) h ((some a_6)) (fun (v_9 : Int) =>
  loadAggK (sizeOfT Try.prog T.api_Tag) h ((some a_8)) (fun (v_10 : Array Value) =>
  callK Try.prog .unit F.seal_wax_put #[(.pointer ((some a_5))), (.int .i64 v_9), (.agg v_10)] (fun (v_11 : Unit) (h : Heap) =>
  R (.tuple #[]) h) h)))))))))))
def seal_Envelope_sealed.ann : Ann := (.seq .leaf (.seq .leaf (.any (.loc 0 (.loc 1 (.loc 2 (.loc 3 (.loc 5 (.loc 6 (.st 4 256 (.st 7 256 (.last 8 .done))))))))))))
theorem seal_Envelope_sealed.eq (v0 : Option Addr) (e1 : Array Value) (R : Value → Heap → Prop) (h : Heap) : seal_Envelope_sealed.body v0 e1 R h = evFn Try.prog Try.f40 seal_Envelope_sealed.ann [(.pointer v0), (.agg e1)] R h := by kernel_rfl
theorem seal_Envelope_sealed.calls {v0 : Option Addr} {e1 : Array Value} {R : Value → Heap → Prop} {h : Heap} (H : seal_Envelope_sealed.body v0 e1 R h) : HC Try.prog F.seal_Envelope_sealed #[(.pointer v0), (.agg e1)] R h :=
  evFn_sound mixed Try.func40 (by kernel_rfl) (seal_Envelope_sealed.eq v0 e1 R h ▸ H)

/-! (*zugzwang/seal.Envelope).resumed -/
def seal_Envelope_resumed.body (v0 : Option Addr) (x1 : Array Value) (R : Value → Heap → Prop) (h : Heap) : Prop :=
  newK h x1 T.api_Entry (fun (v_1 : Option Addr) (h : Heap) =>
  derefK v0 (fun (a_2 : Addr) =>
  fldK ((some a_2)) 66 (fun (a_3 : Addr) =>
  storeK h ((some a_3)) (.int .i64 3) (fun (h : Heap) =>
  R (.tuple #[]) h))))
def seal_Envelope_resumed.ann : Ann := (.seq .leaf .leaf)
theorem seal_Envelope_resumed.eq (v0 : Option Addr) (x1 : Array Value) (R : Value → Heap → Prop) (h : Heap) : seal_Envelope_resumed.body v0 x1 R h = evFn Try.prog Try.f41 seal_Envelope_resumed.ann [(.pointer v0), (.agg x1)] R h := by kernel_rfl
theorem seal_Envelope_resumed.calls {v0 : Option Addr} {x1 : Array Value} {R : Value → Heap → Prop} {h : Heap} (H : seal_Envelope_resumed.body v0 x1 R h) : HC Try.prog F.seal_Envelope_resumed #[(.pointer v0), (.agg x1)] R h :=
  evFn_sound mixed Try.func41 (by kernel_rfl) (seal_Envelope_resumed.eq v0 x1 R h ▸ H)

/-! (*zugzwang/seal.Envelope).opens -/
def seal_Envelope_opens.body (v0 : Option Addr) (e1 : Array Value) (R : Value → Heap → Prop) (h : Heap) : Prop :=
  newK h e1 T.api_Entry (fun (e_1 : Option Addr) (h : Heap) =>
  fldK e_1 65 (fun (a_2 : Addr) =>
  fldK ((some a_2)) 1 (fun (a_3 : Addr) =>
  derefK v0 (fun (a_4 : Addr) =>
  fldK ((some a_4)) 66 (fun (a_5 : Addr) =>
  loadAggK (sizeOfT Try.prog T.api_Move) h ((some a_3)) (fun (v_6 : Array Value) =>
  storeK h ((some a_5)) (.int .i64 1) (fun (h : Heap) =>
  stillAggK (sizeOfT Try.prog T.api_Move) h ((some a_3)) v_6 ∧
  derefK v0 (fun (a_7 : Addr) =>
  fldK ((some a_7)) 67 (fun (a_8 : Addr) =>
  storeAggK (sizeOfT Try.prog T.api_Move) h ((some a_8)) v_6 (fun (h : Heap) =>
  derefK v0 (fun (a_9 : Addr) =>
  fldK ((some a_9)) 70 (fun (a_10 : Addr) =>
  storeK h ((some a_10)) (.bool true) (fun (h : Heap) =>
  derefK v0 (fun (a_11 : Addr) =>
  fldK ((some a_11)) 0 (fun (a_12 : Addr) =>
  buildK Try.prog (Instr.build T.api_Tag #[]) (fun (v_13 : Array Value) =>
  callK Try.prog .unit F.seal_wax_put #[(.pointer ((some a_12))), (.int .i64 0), (.agg v_13)] (fun (v_14 : Unit) (h : Heap) =>
  R (.tuple #[]) h) h))))))))))))))))
def seal_Envelope_opens.ann : Ann := (.seq .leaf (.seq (.any (.loc 0 (.loc 1 (.loc 2 (.loc 3 (.loc 4 (.loc 6 (.loc 7 (.st 5 32256 (.last 8 (.loc 9 (.loc 10 (.last 11 (.loc 12 (.loc 13 (.last 14 .done)))))))))))))))) .leaf))
theorem seal_Envelope_opens.eq (v0 : Option Addr) (e1 : Array Value) (R : Value → Heap → Prop) (h : Heap) : seal_Envelope_opens.body v0 e1 R h = evFn Try.prog Try.f42 seal_Envelope_opens.ann [(.pointer v0), (.agg e1)] R h := by kernel_rfl
theorem seal_Envelope_opens.calls {v0 : Option Addr} {e1 : Array Value} {R : Value → Heap → Prop} {h : Heap} (H : seal_Envelope_opens.body v0 e1 R h) : HC Try.prog F.seal_Envelope_opens #[(.pointer v0), (.agg e1)] R h :=
  evFn_sound mixed Try.func42 (by kernel_rfl) (seal_Envelope_opens.eq v0 e1 R h ▸ H)

/-! zugzwang/seal.deeds -/
def seal_deeds.body  (R : Value → Heap → Prop) (h : Heap) : Prop :=
  buildK Try.prog (Instr.build T.seal_deed #[(0, (.int .i64 1)), (1, (.int .i64 0)), (2, ((Value.func (.func F.seal_Envelope_plain) #[] #[])))]) (fun (v_1 : Array Value) =>
  newK h (zerosOf Try.prog T.seal_deed) T.seal_deed (fun (plain_2 : Option Addr) (h : Heap) =>
  storeAggK (sizeOfT Try.prog T.seal_deed) h plain_2 v_1 (fun (h : Heap) =>
  opK Try.prog .map (Instr.makeMap T.map_aapi_Say_seal_deed none) (fun (v_3 : Option Nat) (h : Heap) =>
  buildK Try.prog (Instr.build T.seal_deed #[(0, (.int .i64 1)), (1, (.int .i64 0)), (2, ((Value.func (.func F.seal_Envelope_sealed) #[] #[])))]) (fun (v_4 : Array Value) =>
  unitK Try.prog (Instr.mapUpdate T.map_aapi_Say_seal_deed (.map v_3) (.int .i64 5) (.agg v_4)) (fun (h : Heap) =>
  buildK Try.prog (Instr.build T.seal_deed #[(0, (.int .i64 2)), (1, (.int .i64 1)), (2, ((Value.func (.func F.seal_Envelope_resumed) #[] #[])))]) (fun (v_5 : Array Value) =>
  unitK Try.prog (Instr.mapUpdate T.map_aapi_Say_seal_deed (.map v_3) (.int .i64 6) (.agg v_5)) (fun (h : Heap) =>
  buildK Try.prog (Instr.build T.seal_deed #[(0, (.int .i64 3)), (1, (.int .i64 2)), (2, ((Value.func (.func F.seal_Envelope_opens) #[] #[])))]) (fun (v_6 : Array Value) =>
  unitK Try.prog (Instr.mapUpdate T.map_aapi_Say_seal_deed (.map v_3) (.int .i64 7) (.agg v_6)) (fun (h : Heap) =>
  buildK Try.prog (Instr.build T.seal_deed #[(0, (.int .i64 0)), (1, (.int .i64 0)), (2, ((Value.func (.func F.seal_Envelope_plain) #[] #[])))]) (fun (v_7 : Array Value) =>
  unitK Try.prog (Instr.mapUpdate T.map_aapi_Say_seal_deed (.map v_3) (.int .i64 4) (.agg v_7)) (fun (h : Heap) =>
  loadAggK (sizeOfT Try.prog T.seal_deed) h plain_2 (fun (v_8 : Array Value) =>
  unitK Try.prog (Instr.mapUpdate T.map_aapi_Say_seal_deed (.map v_3) (.int .i64 1) (.agg v_8)) (fun (h : Heap) =>
  loadAggK (sizeOfT Try.prog T.seal_deed) h plain_2 (fun (v_9 : Array Value) =>
  unitK Try.prog (Instr.mapUpdate T.map_aapi_Say_seal_deed (.map v_3) (.int .i64 2) (.agg v_9)) (fun (h : Heap) =>
  loadAggK (sizeOfT Try.prog T.seal_deed) h plain_2 (fun (v_10 : Array Value) =>
  unitK Try.prog (Instr.mapUpdate T.map_aapi_Say_seal_deed (.map v_3) (.int .i64 3) (.agg v_10)) (fun (h : Heap) =>
  R (.map v_3) h) h)) h)) h)) h)) h)) h)) h)) h)))
def seal_deeds.ann : Ann := (.seq .leaf (.seq .leaf (.seq .leaf .leaf)))
theorem seal_deeds.eq  (R : Value → Heap → Prop) (h : Heap) : seal_deeds.body  R h = evFn Try.prog Try.f26 seal_deeds.ann [] R h := by kernel_rfl
theorem seal_deeds.calls  {R : Value → Heap → Prop} {h : Heap} (H : seal_deeds.body  R h) : HC Try.prog F.seal_deeds #[] R h :=
  evFn_sound mixed Try.func26 (by kernel_rfl) (seal_deeds.eq  R h ▸ H)

/-! zugzwang/msg.Entry -/
def msg_Entry.body (e0 : Array Value) (R : Value → Heap → Prop) (h : Heap) : Prop :=
  newK h e0 T.api_Entry (fun (e_1 : Option Addr) (h : Heap) =>
  fldK e_1 32 (fun (a_2 : Addr) =>
  loadK (.int .i64) h ((some a_2)) (fun (v_3 : Int) =>
  if (decide (v_3 ≥ 0)) = true then
  fldK e_1 32 (fun (a_4 : Addr) =>
  loadK (.int .i64) h ((some a_4)) (fun (v_5 : Int) =>
  if (decide (v_5 ≤ 4294967295)) = true then
  fldK e_1 65 (fun (a_6 : Addr) =>
  loadAggK (sizeOfT Try.prog T.api_Body) h ((some a_6)) (fun (v_7 : Array Value) =>
  callK Try.prog .bool F.msg_Body #[(.agg v_7)] (fun (v_8 : Bool) (h : Heap) =>
  R (.bool v_8) h) h))
  else
  R (.bool false) h))
  else
  R (.bool false) h)))
def msg_Entry.ann : Ann := (.seq .leaf (.seq .leaf .leaf))
theorem msg_Entry.eq (e0 : Array Value) (R : Value → Heap → Prop) (h : Heap) : msg_Entry.body e0 R h = evFn Try.prog Try.f37 msg_Entry.ann [(.agg e0)] R h := by kernel_rfl
theorem msg_Entry.calls {e0 : Array Value} {R : Value → Heap → Prop} {h : Heap} (H : msg_Entry.body e0 R h) : HC Try.prog F.msg_Entry #[(.agg e0)] R h :=
  evFn_sound mixed Try.func37 (by kernel_rfl) (msg_Entry.eq e0 R h ▸ H)

/-! zugzwang/commit.opened -/
def commit_opened.body (t0 : Array Value) (ask1 : Value) (R : Value → Heap → Prop) (h : Heap) : Prop :=
  newK h t0 T.api_Tag (fun (t_1 : Option Addr) (h : Heap) =>
  callV Try.prog (Kd.pair .agg (.int .i64)) ask1 #[] (fun (v_2 : Array Value × Int) (h : Heap) =>
  newK h (zerosOf Try.prog T.api_Tag) T.api_Tag (fun (x_3 : Option Addr) (h : Heap) =>
  storeAggK (sizeOfT Try.prog T.api_Tag) h x_3 v_2.1 (fun (h : Heap) =>
  if (v_2.2 != 0) = true then
  R (.int .i64 v_2.2) h
  else
  loadAggK (sizeOfT Try.prog T.api_Tag) h x_3 (fun (v_4 : Array Value) =>
  loadAggK (sizeOfT Try.prog T.api_Tag) h t_1 (fun (v_5 : Array Value) =>
  eqK Try.prog (binSem .neq T.api_Tag (.tmp 17) (.tmp 18) (.agg v_4) (.agg v_5)) (fun (v_6 : Bool) =>
  if v_6 = true then
  R (.int .i64 7) h
  else
  R (.int .i64 0) h)))))) h)
def commit_opened.ann : Ann := (.seq .leaf (.seq .leaf (.seq (.block (.seq .leaf (.cond (.seq .leaf .leaf) (.seq .leaf (.cond (.seq .leaf .leaf) .leaf))))) (.seq .leaf .leaf))))
theorem commit_opened.eq (t0 : Array Value) (ask1 : Value) (R : Value → Heap → Prop) (h : Heap) : commit_opened.body t0 ask1 R h = evFn Try.prog Try.f73 commit_opened.ann [(.agg t0), ask1] R h := by kernel_rfl
theorem commit_opened.calls {t0 : Array Value} {ask1 : Value} {R : Value → Heap → Prop} {h : Heap} (H : commit_opened.body t0 ask1 R h) : HC Try.prog F.commit_opened #[(.agg t0), ask1] R h :=
  evFn_sound mixed Try.func73 (by kernel_rfl) (commit_opened.eq t0 ask1 R h ▸ H)

/-! zugzwang/commit.OpenMove$1 -/
def commit_OpenMove_1.body (x0 : Option Addr) (x1 : Option Addr) (x2 : Option Addr) (x3 : Option Addr) (x4 : Option Addr) (R : Value → Heap → Prop) (h : Heap) : Prop :=
  newK h (zerosOf Try.prog T.api_Tag) T.api_Tag (fun (v_1 : Option Addr) (h : Heap) =>
  loadK .ptr h x0 (fun (v_2 : Option Addr) =>
  loadAggK (sizeOfT Try.prog T.api_Tag) h x1 (fun (v_3 : Array Value) =>
  loadK (.int .i64) h x2 (fun (v_4 : Int) =>
  loadAggK (sizeOfT Try.prog T.api_Move) h x3 (fun (v_5 : Array Value) =>
  loadAggK (sizeOfT Try.prog T.api_Tag) h x4 (fun (v_6 : Array Value) =>
  callK Try.prog (Kd.pair .agg (.int .i64)) F.commit_Move #[(.pointer v_2), (.agg v_3), (.int .i64 v_4), (.agg v_5), (.agg v_6)] (fun (v_7 : Array Value × Int) (h : Heap) =>
  storeAggK (sizeOfT Try.prog T.api_Tag) h v_1 v_7.1 (fun (h : Heap) =>
  quietK Try.prog .agg (Instr.loadAt T.api_Tag (.pointer v_1)) (fun (r_8 : Array Value) =>
  R (.tuple #[(.agg r_8), (.int .i64 v_7.2)]) h) h)) h))))))
def commit_OpenMove_1.ann : Ann := (.seq .leaf (.seq .leaf .leaf))
theorem commit_OpenMove_1.eq (x0 : Option Addr) (x1 : Option Addr) (x2 : Option Addr) (x3 : Option Addr) (x4 : Option Addr) (R : Value → Heap → Prop) (h : Heap) : commit_OpenMove_1.body x0 x1 x2 x3 x4 R h = evFn Try.prog Try.f74 commit_OpenMove_1.ann [(.pointer x0), (.pointer x1), (.pointer x2), (.pointer x3), (.pointer x4)] R h := by kernel_rfl
theorem commit_OpenMove_1.calls {x0 : Option Addr} {x1 : Option Addr} {x2 : Option Addr} {x3 : Option Addr} {x4 : Option Addr} {R : Value → Heap → Prop} {h : Heap} (H : commit_OpenMove_1.body x0 x1 x2 x3 x4 R h) : HC Try.prog F.commit_OpenMove_1 #[(.pointer x0), (.pointer x1), (.pointer x2), (.pointer x3), (.pointer x4)] R h :=
  evFn_sound mixed Try.func74 (by kernel_rfl) (commit_OpenMove_1.eq x0 x1 x2 x3 x4 R h ▸ H)

/-! zugzwang/commit.OpenMove -/
def commit_OpenMove.body (m0 : Option Addr) (t1 : Array Value) (game2 : Array Value) (number3 : Int) (x4 : Array Value) (nonce5 : Array Value) (R : Value → Heap → Prop) (h : Heap) : Prop :=
  newK h #[(.pointer m0)] T.p_tags_Maker (fun (m_1 : Option Addr) (h : Heap) =>
  newK h t1 T.api_Tag (fun (t_2 : Option Addr) (h : Heap) =>
  newK h game2 T.api_Tag (fun (game_3 : Option Addr) (h : Heap) =>
  newK h #[(.int .i64 number3)] T.int (fun (number_4 : Option Addr) (h : Heap) =>
  newK h x4 T.api_Move (fun (x_5 : Option Addr) (h : Heap) =>
  newK h nonce5 T.api_Tag (fun (nonce_6 : Option Addr) (h : Heap) =>
  loadAggK (sizeOfT Try.prog T.api_Tag) h t_2 (fun (v_7 : Array Value) =>
  callK Try.prog (.int .i64) F.commit_opened #[(.agg v_7), ((Value.func (.func F.commit_OpenMove_1) #[] #[(.pointer m_1), (.pointer game_3), (.pointer number_4), (.pointer x_5), (.pointer nonce_6)]))] (fun (v_8 : Int) (h : Heap) =>
  R (.int .i64 v_8) h) h)))))))
def commit_OpenMove.ann : Ann := (.seq .leaf (.seq .leaf .leaf))
theorem commit_OpenMove.eq (m0 : Option Addr) (t1 : Array Value) (game2 : Array Value) (number3 : Int) (x4 : Array Value) (nonce5 : Array Value) (R : Value → Heap → Prop) (h : Heap) : commit_OpenMove.body m0 t1 game2 number3 x4 nonce5 R h = evFn Try.prog Try.f58 commit_OpenMove.ann [(.pointer m0), (.agg t1), (.agg game2), (.int .i64 number3), (.agg x4), (.agg nonce5)] R h := by kernel_rfl
theorem commit_OpenMove.calls {m0 : Option Addr} {t1 : Array Value} {game2 : Array Value} {number3 : Int} {x4 : Array Value} {nonce5 : Array Value} {R : Value → Heap → Prop} {h : Heap} (H : commit_OpenMove.body m0 t1 game2 number3 x4 nonce5 R h) : HC Try.prog F.commit_OpenMove #[(.pointer m0), (.agg t1), (.agg game2), (.int .i64 number3), (.agg x4), (.agg nonce5)] R h :=
  evFn_sound mixed Try.func58 (by kernel_rfl) (commit_OpenMove.eq m0 t1 game2 number3 x4 nonce5 R h ▸ H)

/-! (*zugzwang/seal.wax).fits -/
def seal_wax_fits.body (w0 : Option Addr) (b1 : Array Value) (R : Value → Heap → Prop) (h : Heap) : Prop :=
  newK h b1 T.api_Body (fun (b_1 : Option Addr) (h : Heap) =>
  derefK w0 (fun (a_2 : Addr) =>
  fldK ((some a_2)) 0 (fun (a_3 : Addr) =>
  derefK w0 (fun (a_4 : Addr) =>
  fldK ((some a_4)) 34 (fun (a_5 : Addr) =>
  derefK w0 (fun (a_6 : Addr) =>
  fldK ((some a_6)) 1 (fun (a_7 : Addr) =>
  derefK w0 (fun (a_8 : Addr) =>
  fldK ((some a_8)) 33 (fun (a_9 : Addr) =>
  fldK b_1 1 (fun (a_10 : Addr) =>
  fldK b_1 38 (fun (a_11 : Addr) =>
  loadK .ptr h ((some a_3)) (fun (v_12 : Option Addr) =>
  loadAggK (sizeOfT Try.prog T.api_Tag) h ((some a_5)) (fun (v_13 : Array Value) =>
  loadAggK (sizeOfT Try.prog T.api_Tag) h ((some a_7)) (fun (v_14 : Array Value) =>
  loadK (.int .i64) h ((some a_9)) (fun (v_15 : Int) =>
  loadAggK (sizeOfT Try.prog T.api_Move) h ((some a_10)) (fun (v_16 : Array Value) =>
  loadAggK (sizeOfT Try.prog T.api_Tag) h ((some a_11)) (fun (v_17 : Array Value) =>
  callK Try.prog (.int .i64) F.commit_OpenMove #[(.pointer v_12), (.agg v_13), (.agg v_14), (.int .i64 v_15), (.agg v_16), (.agg v_17)] (fun (v_18 : Int) (h : Heap) =>
  R (.bool (v_18 == 0)) h) h)))))))))))))))))
def seal_wax_fits.ann : Ann := (.seq .leaf (.seq (.any (.loc 0 (.loc 1 (.loc 2 (.loc 4 (.loc 5 (.loc 6 (.loc 8 (.loc 9 (.loc 10 (.loc 12 (.loc 13 (.loc 14 (.loc 16 (.loc 18 (.st 3 7340032 (.st 7 7340032 (.st 11 7340032 (.st 15 7340032 (.st 17 7340032 (.st 19 7340032 (.last 20 (.loc 21 (.loc 22 .done)))))))))))))))))))))))) .leaf))
theorem seal_wax_fits.eq (w0 : Option Addr) (b1 : Array Value) (R : Value → Heap → Prop) (h : Heap) : seal_wax_fits.body w0 b1 R h = evFn Try.prog Try.f38 seal_wax_fits.ann [(.pointer w0), (.agg b1)] R h := by kernel_rfl
theorem seal_wax_fits.calls {w0 : Option Addr} {b1 : Array Value} {R : Value → Heap → Prop} {h : Heap} (H : seal_wax_fits.body w0 b1 R h) : HC Try.prog F.seal_wax_fits #[(.pointer w0), (.agg b1)] R h :=
  evFn_sound mixed Try.func38 (by kernel_rfl) (seal_wax_fits.eq w0 b1 R h ▸ H)

/-! (*zugzwang/seal.Envelope).Why -/
def seal_Envelope_Why.body (v0 : Option Addr) (e1 : Array Value) (R : Value → Heap → Prop) (h : Heap) : Prop :=
  newK h e1 T.api_Entry (fun (e_1 : Option Addr) (h : Heap) =>
  callK Try.prog .bool F.seal_Envelope_made #[(.pointer v0)] (fun (v_2 : Bool) (h : Heap) =>
  if (!v_2) = true then
  R (.int .i64 1) h
  else
  joinW (fun (s_3 : Option Addr) (h : Heap) =>
  loadAggK (sizeOfT Try.prog T.api_Entry) h e_1 (fun (v_4 : Array Value) =>
  callK Try.prog .bool F.msg_Entry #[(.agg v_4)] (fun (v_5 : Bool) (h : Heap) =>
  if (!v_5) = true then
  R (.int .i64 2) h
  else
  fldK e_1 0 (fun (a_6 : Addr) =>
  loadAggK (sizeOfT Try.prog T.api_Tag) h ((some a_6)) (fun (v_7 : Array Value) =>
  derefK v0 (fun (a_8 : Addr) =>
  fldK ((some a_8)) 0 (fun (a_9 : Addr) =>
  fldK ((some a_9)) 1 (fun (a_10 : Addr) =>
  loadAggK (sizeOfT Try.prog T.api_Tag) h ((some a_10)) (fun (v_11 : Array Value) =>
  eqK Try.prog (binSem .neq T.api_Tag (.tmp 20) (.tmp 25) (.agg v_7) (.agg v_11)) (fun (v_12 : Bool) =>
  if v_12 = true then
  R (.int .i64 14) h
  else
  joinW (fun (s_13 : Bool) (h : Heap) =>
  if s_13 = true then
  R (.int .i64 18) h
  else
  joinW (fun (s_14 : Bool) (h : Heap) =>
  if s_14 = true then
  R (.int .i64 11) h
  else
  fldK s_3 0 (fun (a_15 : Addr) =>
  loadK (.int .i64) h ((some a_15)) (fun (v_16 : Int) =>
  if (v_16 == 3) = true then
  derefK v0 (fun (a_17 : Addr) =>
  fldK ((some a_17)) 0 (fun (a_18 : Addr) =>
  fldK e_1 65 (fun (a_19 : Addr) =>
  loadAggK (sizeOfT Try.prog T.api_Body) h ((some a_19)) (fun (v_20 : Array Value) =>
  callK Try.prog .bool F.seal_wax_fits #[(.pointer ((some a_18))), (.agg v_20)] (fun (v_21 : Bool) (h : Heap) =>
  if (!v_21) = true then
  R (.int .i64 16) h
  else
  R (.int .i64 0) h) h))))
  else
  R (.int .i64 0) h)))
  (fun J_22 =>
  fldK s_3 1 (fun (a_23 : Addr) =>
  loadK (.int .i64) h ((some a_23)) (fun (v_24 : Int) =>
  if (decide (v_24 > 0)) = true then
  fldK e_1 32 (fun (a_25 : Addr) =>
  loadK (.int .i64) h ((some a_25)) (fun (v_26 : Int) =>
  derefK v0 (fun (a_27 : Addr) =>
  fldK ((some a_27)) 0 (fun (a_28 : Addr) =>
  fldK ((some a_28)) 33 (fun (a_29 : Addr) =>
  loadK (.int .i64) h ((some a_29)) (fun (v_30 : Int) =>
  fldK s_3 1 (fun (a_31 : Addr) =>
  loadK (.int .i64) h ((some a_31)) (fun (v_32 : Int) =>
  J_22 (v_26 != (IntKind.i64.wrap (v_30 + v_32))) h))))))))
  else
  J_22 false h))))
  (fun J_33 =>
  fldK s_3 0 (fun (a_34 : Addr) =>
  loadK (.int .i64) h ((some a_34)) (fun (v_35 : Int) =>
  if (v_35 != 0) = true then
  fldK s_3 0 (fun (a_36 : Addr) =>
  loadK (.int .i64) h ((some a_36)) (fun (v_37 : Int) =>
  derefK v0 (fun (a_38 : Addr) =>
  fldK ((some a_38)) 66 (fun (a_39 : Addr) =>
  loadK (.int .i64) h ((some a_39)) (fun (v_40 : Int) =>
  J_33 (v_37 != v_40) h)))))
  else
  J_33 false h))))))))))) h))
  (fun J_41 =>
  fldK e_1 65 (fun (a_42 : Addr) =>
  fldK ((some a_42)) 0 (fun (a_43 : Addr) =>
  loadK (.int .i64) h ((some a_43)) (fun (v_44 : Int) =>
  ((callK Try.prog .map F.seal_deeds #[] (fun (v_45 : Option Nat) (h : Heap) =>
  stillK (.int .i64) h ((some a_43)) v_44 ∧
  ((quietK Try.prog .agg (Instr.lookup T.map_aapi_Say_seal_deed (.map v_45) (.int .i64 v_44) false) (fun (v_46 : Array Value) =>
  newK h (zerosOf Try.prog T.seal_deed) T.seal_deed (fun (d_47 : Option Addr) (h : Heap) =>
  storeAggK (sizeOfT Try.prog T.seal_deed) h d_47 v_46 (fun (h : Heap) =>
  J_41 d_47 h))) h) ∧
  (newK h (zerosOf Try.prog T.seal_deed) T.seal_deed (fun (d_48 : Option Addr) (h : Heap) =>
  quietK Try.prog .agg (Instr.lookup T.map_aapi_Say_seal_deed (.map v_45) (.int .i64 v_44) false) (fun (v_49 : Array Value) =>
  storeAggK (sizeOfT Try.prog T.seal_deed) h d_48 v_49 (fun (h : Heap) =>
  J_41 d_48 h)) h)))) h) ∧
  (newK h (zerosOf Try.prog T.seal_deed) T.seal_deed (fun (d_50 : Option Addr) (h : Heap) =>
  callK Try.prog .map F.seal_deeds #[] (fun (v_51 : Option Nat) (h : Heap) =>
  stillK (.int .i64) h ((some a_43)) v_44 ∧
  quietK Try.prog .agg (Instr.lookup T.map_aapi_Say_seal_deed (.map v_51) (.int .i64 v_44) false) (fun (v_52 : Array Value) =>
  storeAggK (sizeOfT Try.prog T.seal_deed) h d_50 v_52 (fun (h : Heap) =>
  J_41 d_50 h)) h) h)))))))) h)
def seal_Envelope_Why.ann : Ann := (.seq .leaf (.seq (.seq .leaf (.cond (.seq .leaf .leaf) .leaf)) (.join [(5, .ptr)] (.any (.loc 1 (.loc 2 (.st 3 80 (.alt 0 (.alt 4 (.last 5 (.last 6 .done)) (.last 5 (.last 4 (.last 6 .done)))) (.last 5 (.last 0 (.last 4 (.last 6 .done))))))))) (.seq (.block (.seq .leaf (.cond (.seq .leaf .leaf) (.seq .leaf (.cond (.seq .leaf .leaf) (.join [(27, .bool)] .leaf (.cond (.seq .leaf .leaf) (.join [(40, .bool)] .leaf (.cond (.seq .leaf .leaf) (.seq (.any (.loc 0 (.st 1 8188 (.loc 2 (.loc 3 (.locA 4 (.loc 5 (.loc 6 (.loc 7 (.st 8 7680 (.last 9 (.loc 10 (.loc 11 (.loc 12 .done)))))))) (.loc 5 (.loc 6 (.loc 7 (.loc 8 (.loc 9 (.loc 10 (.loc 11 (.loc 12 .done)))))))))))))) (.cond (.seq .leaf .leaf) .leaf))))))))))) (.seq .leaf .leaf)))))
theorem seal_Envelope_Why.eq (v0 : Option Addr) (e1 : Array Value) (R : Value → Heap → Prop) (h : Heap) : seal_Envelope_Why.body v0 e1 R h = evFn Try.prog Try.f25 seal_Envelope_Why.ann [(.pointer v0), (.agg e1)] R h := by kernel_rfl
theorem seal_Envelope_Why.calls {v0 : Option Addr} {e1 : Array Value} {R : Value → Heap → Prop} {h : Heap} (H : seal_Envelope_Why.body v0 e1 R h) : HC Try.prog F.seal_Envelope_Why #[(.pointer v0), (.agg e1)] R h :=
  evFn_sound mixed Try.func25 (by kernel_rfl) (seal_Envelope_Why.eq v0 e1 R h ▸ H)

/-! (*zugzwang/seal.Envelope).Take -/
def seal_Envelope_Take.body (v0 : Option Addr) (l1 : Sl) (R : Value → Heap → Prop) (h : Heap) : Prop :=
  callK Try.prog .bool F.seal_Envelope_made #[(.pointer v0)] (fun (v_1 : Bool) (h : Heap) =>
  if (!v_1) = true then
  R (.int .i64 1) h
  else
  loopW (fun X_3 (s_2 : Int) (h : Heap) =>
  if (decide (s_2 < ((l1.n : Int)))) = true then
  idxK l1 s_2 (sizeOfT Try.prog T.api_Entry) (fun (a_4 : Addr) =>
  loadAggK (sizeOfT Try.prog T.api_Entry) h ((some a_4)) (fun (v_5 : Array Value) =>
  newK h (zerosOf Try.prog T.api_Entry) T.api_Entry (fun (e_6 : Option Addr) (h : Heap) =>
  storeAggK (sizeOfT Try.prog T.api_Entry) h e_6 v_5 (fun (h : Heap) =>
  loadAggK (sizeOfT Try.prog T.api_Entry) h e_6 (fun (v_7 : Array Value) =>
  callK Try.prog (.int .i64) F.seal_Envelope_Why #[(.pointer v0), (.agg v_7)] (fun (v_8 : Int) (h : Heap) =>
  if (v_8 != 0) = true then
  R (.int .i64 v_8) h
  else
  fldK e_6 65 (fun (a_9 : Addr) =>
  fldK ((some a_9)) 0 (fun (a_10 : Addr) =>
  loadK (.int .i64) h ((some a_10)) (fun (v_11 : Int) =>
  loadAggK (sizeOfT Try.prog T.api_Entry) h e_6 (fun (v_12 : Array Value) =>
  callK Try.prog .map F.seal_deeds #[] (fun (v_13 : Option Nat) (h : Heap) =>
  stillAggK (sizeOfT Try.prog T.api_Entry) h e_6 v_12 ∧
  stillK (.int .i64) h ((some a_10)) v_11 ∧
  quietK Try.prog .agg (Instr.lookup T.map_aapi_Say_seal_deed (.map v_13) (.int .i64 v_11) false) (fun (v_14 : Array Value) =>
  stillAggK (sizeOfT Try.prog T.api_Entry) h e_6 v_12 ∧
  partK .any v_14 2 (fun (v_15 : Value) =>
  callV Try.prog .unit v_15 #[(.pointer v0), (.agg v_12)] (fun (v_16 : Unit) (h : Heap) =>
  X_3 (IntKind.i64.wrap (s_2 + 1)) h) h)) h) h))))) h)))))
  else
  R (.int .i64 0) h) 0 h) h
def seal_Envelope_Take.ann : Ann := (.seq .leaf (.seq (.seq .leaf (.cond (.seq .leaf .leaf) .leaf)) (.seq (.seq .leaf (.block (.loop [(13, (.int .i64))] (.seq .leaf (.seq (.cond .leaf .leaf) (.seq (.block (.seq .leaf (.seq (.seq .leaf (.seq .leaf (.cond (.seq .leaf .leaf) .leaf))) (.any (.loc 1 (.loc 2 (.loc 6 (.st 3 304 (.st 7 256 (.last 0 (.last 4 (.loc 5 (.last 8 .done))))))))))))) .leaf)))))) (.seq .leaf .leaf))))
theorem seal_Envelope_Take.eq (v0 : Option Addr) (l1 : Sl) (R : Value → Heap → Prop) (h : Heap) : seal_Envelope_Take.body v0 l1 R h = evFn Try.prog Try.f11 seal_Envelope_Take.ann [(.pointer v0), (.slice l1.a l1.n l1.c)] R h := by kernel_rfl
theorem seal_Envelope_Take.calls {v0 : Option Addr} {l1 : Sl} {R : Value → Heap → Prop} {h : Heap} (H : seal_Envelope_Take.body v0 l1 R h) : HC Try.prog F.seal_Envelope_Take #[(.pointer v0), (.slice l1.a l1.n l1.c)] R h :=
  evFn_sound mixed Try.func11 (by kernel_rfl) (seal_Envelope_Take.eq v0 l1 R h ▸ H)

/-! (*zugzwang/seal.Envelope).State -/
def seal_Envelope_State.body (v0 : Option Addr) (R : Value → Heap → Prop) (h : Heap) : Prop :=
  callK Try.prog .bool F.seal_Envelope_made #[(.pointer v0)] (fun (v_1 : Bool) (h : Heap) =>
  if (!v_1) = true then
  R (.int .i64 0) h
  else
  derefK v0 (fun (a_2 : Addr) =>
  fldK ((some a_2)) 66 (fun (a_3 : Addr) =>
  loadK (.int .i64) h ((some a_3)) (fun (v_4 : Int) =>
  R (.int .i64 v_4) h)))) h
def seal_Envelope_State.ann : Ann := (.seq .leaf (.seq (.seq .leaf (.cond (.seq .leaf .leaf) .leaf)) (.seq .leaf .leaf)))
theorem seal_Envelope_State.eq (v0 : Option Addr) (R : Value → Heap → Prop) (h : Heap) : seal_Envelope_State.body v0 R h = evFn Try.prog Try.f12 seal_Envelope_State.ann [(.pointer v0)] R h := by kernel_rfl
theorem seal_Envelope_State.calls {v0 : Option Addr} {R : Value → Heap → Prop} {h : Heap} (H : seal_Envelope_State.body v0 R h) : HC Try.prog F.seal_Envelope_State #[(.pointer v0)] R h :=
  evFn_sound mixed Try.func12 (by kernel_rfl) (seal_Envelope_State.eq v0 R h ▸ H)

/-! (*zugzwang/seal.Envelope).Opened -/
def seal_Envelope_Opened.body (v0 : Option Addr) (R : Value → Heap → Prop) (h : Heap) : Prop :=
  newK h (zerosOf Try.prog T.api_Move) T.api_Move (fun (x_1 : Option Addr) (h : Heap) =>
  callK Try.prog .bool F.seal_Envelope_made #[(.pointer v0)] (fun (v_2 : Bool) (h : Heap) =>
  if (!v_2) = true then
  loadAggK (sizeOfT Try.prog T.api_Move) h x_1 (fun (v_3 : Array Value) =>
  storeAggK (sizeOfT Try.prog T.api_Move) h x_1 v_3 (fun (h : Heap) =>
  quietK Try.prog .agg (Instr.loadAt T.api_Move (.pointer x_1)) (fun (r_4 : Array Value) =>
  R (.tuple #[(.agg r_4), (.bool false)]) h) h))
  else
  derefK v0 (fun (a_5 : Addr) =>
  fldK ((some a_5)) 67 (fun (a_6 : Addr) =>
  derefK v0 (fun (a_7 : Addr) =>
  fldK ((some a_7)) 70 (fun (a_8 : Addr) =>
  loadAggK (sizeOfT Try.prog T.api_Move) h ((some a_6)) (fun (v_9 : Array Value) =>
  loadK .bool h ((some a_8)) (fun (v_10 : Bool) =>
  storeAggK (sizeOfT Try.prog T.api_Move) h x_1 v_9 (fun (h : Heap) =>
  stillK .bool h ((some a_8)) v_10 ∧
  quietK Try.prog .agg (Instr.loadAt T.api_Move (.pointer x_1)) (fun (r_11 : Array Value) =>
  R (.tuple #[(.agg r_11), (.bool v_10)]) h) h)))))))) h)
def seal_Envelope_Opened.ann : Ann := (.seq .leaf (.seq (.seq .leaf (.cond (.seq .leaf .leaf) .leaf)) (.seq (.any (.loc 0 (.loc 1 (.loc 2 (.loc 4 (.loc 5 (.loc 6 (.st 3 768 (.st 7 512 (.last 8 (.loc 9 .done))))))))))) .leaf)))
theorem seal_Envelope_Opened.eq (v0 : Option Addr) (R : Value → Heap → Prop) (h : Heap) : seal_Envelope_Opened.body v0 R h = evFn Try.prog Try.f13 seal_Envelope_Opened.ann [(.pointer v0)] R h := by kernel_rfl
theorem seal_Envelope_Opened.calls {v0 : Option Addr} {R : Value → Heap → Prop} {h : Heap} (H : seal_Envelope_Opened.body v0 R h) : HC Try.prog F.seal_Envelope_Opened #[(.pointer v0)] R h :=
  evFn_sound mixed Try.func13 (by kernel_rfl) (seal_Envelope_Opened.eq v0 R h ▸ H)

/-! zugzwang/zugzwanglaw24.awake -/
def law24_awake.body  (R : Value → Heap → Prop) (h : Heap) : Prop :=
  callK Try.prog .ptr F.tags_New #[(.bool false), (.slice none 0 0)] (fun (v_1 : Option Addr) (h : Heap) =>
  buildK Try.prog (Instr.build T.api_Move #[(0, (.int .i64 12)), (1, (.int .i64 28))]) (fun (v_2 : Array Value) =>
  newK h (zerosOf Try.prog T.api_Move) T.api_Move (fun (x_3 : Option Addr) (h : Heap) =>
  storeAggK (sizeOfT Try.prog T.api_Move) h x_3 v_2 (fun (h : Heap) =>
  joinW (fun (s_4 : Option Addr × Option Addr × Int) (h : Heap) =>
  buildK Try.prog (Instr.build T.api_Tag #[]) (fun (v_5 : Array Value) =>
  callK Try.prog (Kd.pair .ptr (.int .i64)) F.seal_New #[(.pointer v_1), (.agg v_5)] (fun (v_6 : Option Addr × Int) (h : Heap) =>
  if (s_4.2.2 != 0) = true then
  R (.bool false) h
  else
  if (v_6.2 != 0) = true then
  R (.bool false) h
  else
  loadAggK (sizeOfT Try.prog T.api_Body) h s_4.1 (fun (v_7 : Array Value) =>
  buildK Try.prog (Instr.build T.api_Entry #[(3, (.agg v_7))]) (fun (v_8 : Array Value) =>
  opK Try.prog .slice (Instr.buildSlice T.sl_api_Entry 1 #[(0, (.agg v_8))]) (fun (v_9 : Sl) (h : Heap) =>
  callK Try.prog (.int .i64) F.seal_Envelope_Take #[(.pointer v_6.1), (.slice v_9.a v_9.n v_9.c)] (fun (v_10 : Int) (h : Heap) =>
  if (v_10 != 0) = true then
  R (.bool false) h
  else
  callK Try.prog (.int .i64) F.seal_Envelope_State #[(.pointer v_6.1)] (fun (v_11 : Int) (h : Heap) =>
  if (v_11 != 2) = true then
  R (.bool false) h
  else
  buildK Try.prog (Instr.build T.api_Body #[(0, (.int .i64 6))]) (fun (v_12 : Array Value) =>
  buildK Try.prog (Instr.build T.api_Entry #[(1, (.int .i64 1)), (3, (.agg v_12))]) (fun (v_13 : Array Value) =>
  opK Try.prog .slice (Instr.buildSlice T.sl_api_Entry 1 #[(0, (.agg v_13))]) (fun (v_14 : Sl) (h : Heap) =>
  callK Try.prog (.int .i64) F.seal_Envelope_Take #[(.pointer v_6.1), (.slice v_14.a v_14.n v_14.c)] (fun (v_15 : Int) (h : Heap) =>
  if (v_15 != 0) = true then
  R (.bool false) h
  else
  loadAggK (sizeOfT Try.prog T.api_Body) h s_4.2.1 (fun (v_16 : Array Value) =>
  buildK Try.prog (Instr.build T.api_Entry #[(1, (.int .i64 2)), (3, (.agg v_16))]) (fun (v_17 : Array Value) =>
  opK Try.prog .slice (Instr.buildSlice T.sl_api_Entry 1 #[(0, (.agg v_17))]) (fun (v_18 : Sl) (h : Heap) =>
  callK Try.prog (.int .i64) F.seal_Envelope_Take #[(.pointer v_6.1), (.slice v_18.a v_18.n v_18.c)] (fun (v_19 : Int) (h : Heap) =>
  if (v_19 != 0) = true then
  R (.bool false) h
  else
  callK Try.prog (Kd.pair .agg .bool) F.seal_Envelope_Opened #[(.pointer v_6.1)] (fun (v_20 : Array Value × Bool) (h : Heap) =>
  newK h (zerosOf Try.prog T.api_Move) T.api_Move (fun (y_21 : Option Addr) (h : Heap) =>
  storeAggK (sizeOfT Try.prog T.api_Move) h y_21 v_20.1 (fun (h : Heap) =>
  if v_20.2 = true then
  loadAggK (sizeOfT Try.prog T.api_Move) h y_21 (fun (v_22 : Array Value) =>
  loadAggK (sizeOfT Try.prog T.api_Move) h x_3 (fun (v_23 : Array Value) =>
  eqK Try.prog (binSem .eql T.api_Move (.tmp 70) (.tmp 71) (.agg v_22) (.agg v_23)) (fun (v_24 : Bool) =>
  if v_24 = true then
  callK Try.prog (.int .i64) F.seal_Envelope_State #[(.pointer v_6.1)] (fun (v_25 : Int) (h : Heap) =>
  R (.bool (v_25 == 1)) h) h
  else
  R (.bool false) h)))
  else
  R (.bool false) h))) h) h) h))) h) h))) h) h) h))) h))
  (fun J_26 =>
  buildK Try.prog (Instr.build T.api_Tag #[]) (fun (v_27 : Array Value) =>
  loadAggK (sizeOfT Try.prog T.api_Move) h x_3 (fun (v_28 : Array Value) =>
  ((callK Try.prog .agg F.tags_Maker_Draw #[(.pointer v_1), (.int .i64 0)] (fun (v_29 : Array Value) (h : Heap) =>
  stillAggK (sizeOfT Try.prog T.api_Move) h x_3 v_28 ∧
  ((callK Try.prog (Kd.trip .agg .agg (.int .i64)) F.seal_Make #[(.pointer v_1), (.agg v_27), (.int .i64 0), (.agg v_28), (.agg v_29)] (fun (v_30 : Array Value × Array Value × Int) (h : Heap) =>
  ((newK h (zerosOf Try.prog T.api_Body) T.api_Body (fun (a_31 : Option Addr) (h : Heap) =>
  newK h (zerosOf Try.prog T.api_Body) T.api_Body (fun (b_32 : Option Addr) (h : Heap) =>
  storeAggK (sizeOfT Try.prog T.api_Body) h a_31 v_30.1 (fun (h : Heap) =>
  storeAggK (sizeOfT Try.prog T.api_Body) h b_32 v_30.2.1 (fun (h : Heap) =>
  J_26 (a_31, b_32, v_30.2.2) h))))) ∧
  (newK h (zerosOf Try.prog T.api_Body) T.api_Body (fun (b_33 : Option Addr) (h : Heap) =>
  newK h (zerosOf Try.prog T.api_Body) T.api_Body (fun (a_34 : Option Addr) (h : Heap) =>
  storeAggK (sizeOfT Try.prog T.api_Body) h a_34 v_30.1 (fun (h : Heap) =>
  storeAggK (sizeOfT Try.prog T.api_Body) h b_33 v_30.2.1 (fun (h : Heap) =>
  J_26 (a_34, b_33, v_30.2.2) h))))))) h) ∧
  (((newK h (zerosOf Try.prog T.api_Body) T.api_Body (fun (a_35 : Option Addr) (h : Heap) =>
  ((callK Try.prog (Kd.trip .agg .agg (.int .i64)) F.seal_Make #[(.pointer v_1), (.agg v_27), (.int .i64 0), (.agg v_28), (.agg v_29)] (fun (v_36 : Array Value × Array Value × Int) (h : Heap) =>
  newK h (zerosOf Try.prog T.api_Body) T.api_Body (fun (b_37 : Option Addr) (h : Heap) =>
  storeAggK (sizeOfT Try.prog T.api_Body) h a_35 v_36.1 (fun (h : Heap) =>
  storeAggK (sizeOfT Try.prog T.api_Body) h b_37 v_36.2.1 (fun (h : Heap) =>
  J_26 (a_35, b_37, v_36.2.2) h)))) h) ∧
  (newK h (zerosOf Try.prog T.api_Body) T.api_Body (fun (b_38 : Option Addr) (h : Heap) =>
  callK Try.prog (Kd.trip .agg .agg (.int .i64)) F.seal_Make #[(.pointer v_1), (.agg v_27), (.int .i64 0), (.agg v_28), (.agg v_29)] (fun (v_39 : Array Value × Array Value × Int) (h : Heap) =>
  storeAggK (sizeOfT Try.prog T.api_Body) h a_35 v_39.1 (fun (h : Heap) =>
  storeAggK (sizeOfT Try.prog T.api_Body) h b_38 v_39.2.1 (fun (h : Heap) =>
  J_26 (a_35, b_38, v_39.2.2) h))) h))))) ∧
  (newK h (zerosOf Try.prog T.api_Body) T.api_Body (fun (b_40 : Option Addr) (h : Heap) =>
  ((callK Try.prog (Kd.trip .agg .agg (.int .i64)) F.seal_Make #[(.pointer v_1), (.agg v_27), (.int .i64 0), (.agg v_28), (.agg v_29)] (fun (v_41 : Array Value × Array Value × Int) (h : Heap) =>
  newK h (zerosOf Try.prog T.api_Body) T.api_Body (fun (a_42 : Option Addr) (h : Heap) =>
  storeAggK (sizeOfT Try.prog T.api_Body) h a_42 v_41.1 (fun (h : Heap) =>
  storeAggK (sizeOfT Try.prog T.api_Body) h b_40 v_41.2.1 (fun (h : Heap) =>
  J_26 (a_42, b_40, v_41.2.2) h)))) h) ∧
  (newK h (zerosOf Try.prog T.api_Body) T.api_Body (fun (a_43 : Option Addr) (h : Heap) =>
  callK Try.prog (Kd.trip .agg .agg (.int .i64)) F.seal_Make #[(.pointer v_1), (.agg v_27), (.int .i64 0), (.agg v_28), (.agg v_29)] (fun (v_44 : Array Value × Array Value × Int) (h : Heap) =>
  storeAggK (sizeOfT Try.prog T.api_Body) h a_43 v_44.1 (fun (h : Heap) =>
  storeAggK (sizeOfT Try.prog T.api_Body) h b_40 v_44.2.1 (fun (h : Heap) =>
  J_26 (a_43, b_40, v_44.2.2) h))) h))))))))) h) ∧
  (((newK h (zerosOf Try.prog T.api_Body) T.api_Body (fun (a_45 : Option Addr) (h : Heap) =>
  ((callK Try.prog .agg F.tags_Maker_Draw #[(.pointer v_1), (.int .i64 0)] (fun (v_46 : Array Value) (h : Heap) =>
  stillAggK (sizeOfT Try.prog T.api_Move) h x_3 v_28 ∧
  ((callK Try.prog (Kd.trip .agg .agg (.int .i64)) F.seal_Make #[(.pointer v_1), (.agg v_27), (.int .i64 0), (.agg v_28), (.agg v_46)] (fun (v_47 : Array Value × Array Value × Int) (h : Heap) =>
  newK h (zerosOf Try.prog T.api_Body) T.api_Body (fun (b_48 : Option Addr) (h : Heap) =>
  storeAggK (sizeOfT Try.prog T.api_Body) h a_45 v_47.1 (fun (h : Heap) =>
  storeAggK (sizeOfT Try.prog T.api_Body) h b_48 v_47.2.1 (fun (h : Heap) =>
  J_26 (a_45, b_48, v_47.2.2) h)))) h) ∧
  (newK h (zerosOf Try.prog T.api_Body) T.api_Body (fun (b_49 : Option Addr) (h : Heap) =>
  callK Try.prog (Kd.trip .agg .agg (.int .i64)) F.seal_Make #[(.pointer v_1), (.agg v_27), (.int .i64 0), (.agg v_28), (.agg v_46)] (fun (v_50 : Array Value × Array Value × Int) (h : Heap) =>
  storeAggK (sizeOfT Try.prog T.api_Body) h a_45 v_50.1 (fun (h : Heap) =>
  storeAggK (sizeOfT Try.prog T.api_Body) h b_49 v_50.2.1 (fun (h : Heap) =>
  J_26 (a_45, b_49, v_50.2.2) h))) h)))) h) ∧
  (newK h (zerosOf Try.prog T.api_Body) T.api_Body (fun (b_51 : Option Addr) (h : Heap) =>
  callK Try.prog .agg F.tags_Maker_Draw #[(.pointer v_1), (.int .i64 0)] (fun (v_52 : Array Value) (h : Heap) =>
  stillAggK (sizeOfT Try.prog T.api_Move) h x_3 v_28 ∧
  callK Try.prog (Kd.trip .agg .agg (.int .i64)) F.seal_Make #[(.pointer v_1), (.agg v_27), (.int .i64 0), (.agg v_28), (.agg v_52)] (fun (v_53 : Array Value × Array Value × Int) (h : Heap) =>
  storeAggK (sizeOfT Try.prog T.api_Body) h a_45 v_53.1 (fun (h : Heap) =>
  storeAggK (sizeOfT Try.prog T.api_Body) h b_51 v_53.2.1 (fun (h : Heap) =>
  J_26 (a_45, b_51, v_53.2.2) h))) h) h))))) ∧
  (newK h (zerosOf Try.prog T.api_Body) T.api_Body (fun (b_54 : Option Addr) (h : Heap) =>
  ((callK Try.prog .agg F.tags_Maker_Draw #[(.pointer v_1), (.int .i64 0)] (fun (v_55 : Array Value) (h : Heap) =>
  stillAggK (sizeOfT Try.prog T.api_Move) h x_3 v_28 ∧
  ((callK Try.prog (Kd.trip .agg .agg (.int .i64)) F.seal_Make #[(.pointer v_1), (.agg v_27), (.int .i64 0), (.agg v_28), (.agg v_55)] (fun (v_56 : Array Value × Array Value × Int) (h : Heap) =>
  newK h (zerosOf Try.prog T.api_Body) T.api_Body (fun (a_57 : Option Addr) (h : Heap) =>
  storeAggK (sizeOfT Try.prog T.api_Body) h a_57 v_56.1 (fun (h : Heap) =>
  storeAggK (sizeOfT Try.prog T.api_Body) h b_54 v_56.2.1 (fun (h : Heap) =>
  J_26 (a_57, b_54, v_56.2.2) h)))) h) ∧
  (newK h (zerosOf Try.prog T.api_Body) T.api_Body (fun (a_58 : Option Addr) (h : Heap) =>
  callK Try.prog (Kd.trip .agg .agg (.int .i64)) F.seal_Make #[(.pointer v_1), (.agg v_27), (.int .i64 0), (.agg v_28), (.agg v_55)] (fun (v_59 : Array Value × Array Value × Int) (h : Heap) =>
  storeAggK (sizeOfT Try.prog T.api_Body) h a_58 v_59.1 (fun (h : Heap) =>
  storeAggK (sizeOfT Try.prog T.api_Body) h b_54 v_59.2.1 (fun (h : Heap) =>
  J_26 (a_58, b_54, v_59.2.2) h))) h)))) h) ∧
  (newK h (zerosOf Try.prog T.api_Body) T.api_Body (fun (a_60 : Option Addr) (h : Heap) =>
  callK Try.prog .agg F.tags_Maker_Draw #[(.pointer v_1), (.int .i64 0)] (fun (v_61 : Array Value) (h : Heap) =>
  stillAggK (sizeOfT Try.prog T.api_Move) h x_3 v_28 ∧
  callK Try.prog (Kd.trip .agg .agg (.int .i64)) F.seal_Make #[(.pointer v_1), (.agg v_27), (.int .i64 0), (.agg v_28), (.agg v_61)] (fun (v_62 : Array Value × Array Value × Int) (h : Heap) =>
  storeAggK (sizeOfT Try.prog T.api_Body) h a_60 v_62.1 (fun (h : Heap) =>
  storeAggK (sizeOfT Try.prog T.api_Body) h b_54 v_62.2.1 (fun (h : Heap) =>
  J_26 (a_60, b_54, v_62.2.2) h))) h) h))))))))))))))) h
def law24_awake.ann : Ann := (.seq .leaf (.seq .leaf (.seq .leaf (.join [(3, .ptr), (4, .ptr), (5, (.int .i64))] (.any (.loc 0 (.loc 1 (.loc 3 (.st 2 29664 (.alt 4 (.alt 5 (.loc 6 (.loc 7 (.loc 8 (.loc 9 (.alt 10 (.last 11 (.last 12 (.last 13 (.loc 14 .done)))) (.last 11 (.last 10 (.last 12 (.last 13 (.loc 14 .done)))))))))) (.alt 10 (.alt 5 (.loc 6 (.loc 7 (.loc 8 (.loc 9 (.last 11 (.last 12 (.last 13 (.loc 14 .done)))))))) (.last 11 (.last 5 (.loc 6 (.loc 7 (.loc 8 (.loc 9 (.last 12 (.last 13 (.loc 14 .done)))))))))) (.last 11 (.alt 5 (.loc 6 (.loc 7 (.loc 8 (.loc 9 (.last 10 (.last 12 (.last 13 (.loc 14 .done)))))))) (.last 10 (.last 5 (.loc 6 (.loc 7 (.loc 8 (.loc 9 (.last 12 (.last 13 (.loc 14 .done))))))))))))) (.alt 10 (.alt 4 (.alt 5 (.loc 6 (.loc 7 (.loc 8 (.loc 9 (.last 11 (.last 12 (.last 13 (.loc 14 .done)))))))) (.last 11 (.last 5 (.loc 6 (.loc 7 (.loc 8 (.loc 9 (.last 12 (.last 13 (.loc 14 .done)))))))))) (.last 11 (.last 4 (.last 5 (.loc 6 (.loc 7 (.loc 8 (.loc 9 (.last 12 (.last 13 (.loc 14 .done))))))))))) (.last 11 (.alt 4 (.alt 5 (.loc 6 (.loc 7 (.loc 8 (.loc 9 (.last 10 (.last 12 (.last 13 (.loc 14 .done)))))))) (.last 10 (.last 5 (.loc 6 (.loc 7 (.loc 8 (.loc 9 (.last 12 (.last 13 (.loc 14 .done)))))))))) (.last 10 (.last 4 (.last 5 (.loc 6 (.loc 7 (.loc 8 (.loc 9 (.last 12 (.last 13 (.loc 14 .done))))))))))))))))))) (.seq .leaf (.seq (.seq .leaf (.cond (.seq .leaf .leaf) .leaf)) (.seq .leaf (.seq .leaf .leaf))))))))
theorem law24_awake.eq  (R : Value → Heap → Prop) (h : Heap) : law24_awake.body  R h = evFn Try.prog Try.f4 law24_awake.ann [] R h := by kernel_rfl
theorem law24_awake.calls  {R : Value → Heap → Prop} {h : Heap} (H : law24_awake.body  R h) : HC Try.prog F.law24_awake #[] R h :=
  evFn_sound mixed Try.func4 (by kernel_rfl) (law24_awake.eq  R h ▸ H)

/-! bytes.IndexByte -/
def bytes_IndexByte.body (b0 : Sl) (c1 : Int) (R : Value → Heap → Prop) (h : Heap) : Prop :=
  externK Try.prog (.int .i64) F.internal_bytealg_IndexByte #[(.slice b0.a b0.n b0.c), (.int .u8 c1)] (fun (v_1 : Int) (h : Heap) =>
  R (.int .i64 v_1) h) h
def bytes_IndexByte.ann : Ann := (.seq .leaf (.seq .leaf .leaf))
theorem bytes_IndexByte.eq (b0 : Sl) (c1 : Int) (R : Value → Heap → Prop) (h : Heap) : bytes_IndexByte.body b0 c1 R h = evFn Try.prog Try.f43 bytes_IndexByte.ann [(.slice b0.a b0.n b0.c), (.int .u8 c1)] R h := by kernel_rfl
theorem bytes_IndexByte.calls {b0 : Sl} {c1 : Int} {R : Value → Heap → Prop} {h : Heap} (H : bytes_IndexByte.body b0 c1 R h) : HC Try.prog F.bytes_IndexByte #[(.slice b0.a b0.n b0.c), (.int .u8 c1)] R h :=
  evFn_sound mixed Try.func43 (by kernel_rfl) (bytes_IndexByte.eq b0 c1 R h ▸ H)

/-! bytes.Equal -/
def bytes_Equal.body (a0 : Sl) (b1 : Sl) (R : Value → Heap → Prop) (h : Heap) : Prop :=
  opK Try.prog .str (convert T.sl_uint8 T.string (.slice a0.a a0.n a0.c)) (fun (v_1 : ByteArray) (h : Heap) =>
  opK Try.prog .str (convert T.sl_uint8 T.string (.slice b1.a b1.n b1.c)) (fun (v_2 : ByteArray) (h : Heap) =>
  R (.bool (v_1.toList == v_2.toList)) h) h) h
def bytes_Equal.ann : Ann := (.seq .leaf (.seq .leaf .leaf))
theorem bytes_Equal.eq (a0 : Sl) (b1 : Sl) (R : Value → Heap → Prop) (h : Heap) : bytes_Equal.body a0 b1 R h = evFn Try.prog Try.f44 bytes_Equal.ann [(.slice a0.a a0.n a0.c), (.slice b1.a b1.n b1.c)] R h := by kernel_rfl
theorem bytes_Equal.calls {a0 : Sl} {b1 : Sl} {R : Value → Heap → Prop} {h : Heap} (H : bytes_Equal.body a0 b1 R h) : HC Try.prog F.bytes_Equal #[(.slice a0.a a0.n a0.c), (.slice b1.a b1.n b1.c)] R h :=
  evFn_sound mixed Try.func44 (by kernel_rfl) (bytes_Equal.eq a0 b1 R h ▸ H)

/-! internal/bytealg.Cutover -/
def internal_bytealg_Cutover.body (n0 : Int) (R : Value → Heap → Prop) (h : Heap) : Prop :=
  divK 8
  (R (.int .i64 (IntKind.i64.wrap (Int.tdiv (IntKind.i64.wrap (n0 + 16)) 8))) h)
def internal_bytealg_Cutover.ann : Ann := (.seq .leaf (.seq .leaf .leaf))
theorem internal_bytealg_Cutover.eq (n0 : Int) (R : Value → Heap → Prop) (h : Heap) : internal_bytealg_Cutover.body n0 R h = evFn Try.prog Try.f46 internal_bytealg_Cutover.ann [(.int .i64 n0)] R h := by kernel_rfl
theorem internal_bytealg_Cutover.calls {n0 : Int} {R : Value → Heap → Prop} {h : Heap} (H : internal_bytealg_Cutover.body n0 R h) : HC Try.prog F.internal_bytealg_Cutover #[(.int .i64 n0)] R h :=
  evFn_sound mixed Try.func46 (by kernel_rfl) (internal_bytealg_Cutover.eq n0 R h ▸ H)

/-! internal/bytealg.hashStr[[]byte] -/
def internal_bytealg_hashStr_byte.body (sep0 : Sl) (R : Value → Heap → Prop) (h : Heap) : Prop :=
  loopW (fun X_2 (s_1 : Int × Int) (h : Heap) =>
  if (decide (s_1.2 < ((sep0.n : Int)))) = true then
  idxK sep0 s_1.2 (sizeOfT Try.prog T.uint8) (fun (a_3 : Addr) =>
  loadK (.int .u8) h ((some a_3)) (fun (v_4 : Int) =>
  X_2 (IntKind.u32.wrap ((IntKind.u32.wrap (s_1.1 * 16777619)) + (IntKind.u32.wrap v_4)), IntKind.i64.wrap (s_1.2 + 1)) h))
  else
  loopW (fun X_6 (s_5 : Int × Int × Int) (h : Heap) =>
  if (decide (s_5.2.2 > 0)) = true then
  if ((IntKind.i64.wrap (BitVec.ofInt (IntKind.bits .i64) s_5.2.2 &&& BitVec.ofInt (IntKind.bits .i64) 1).toNat) != 0) = true then
  shiftK 1
  (X_6 (IntKind.u32.wrap (s_5.1 * s_5.2.1), IntKind.u32.wrap (s_5.2.1 * s_5.2.1), Int.fdiv s_5.2.2 (2 ^ min (Int.toNat 1) (IntKind.bits .i64))) h)
  else
  shiftK 1
  (X_6 (s_5.1, IntKind.u32.wrap (s_5.2.1 * s_5.2.1), Int.fdiv s_5.2.2 (2 ^ min (Int.toNat 1) (IntKind.bits .i64))) h)
  else
  R (.tuple #[(.int .u32 s_1.1), (.int .u32 s_5.1)]) h) (1, 16777619, (sep0.n : Int)) h) (0, 0) h
def internal_bytealg_hashStr_byte.ann : Ann := (.seq .leaf (.seq .leaf (.seq (.seq .leaf (.block (.loop [(4, (.int .u32)), (5, (.int .i64))] (.seq (.seq .leaf (.cond .leaf .leaf)) (.seq (.block .leaf) .leaf))))) (.seq .leaf (.seq (.seq .leaf (.block (.loop [(6, (.int .u32)), (7, (.int .u32)), (8, (.int .i64))] (.seq (.seq .leaf (.cond .leaf .leaf)) (.seq (.block (.seq (.seq .leaf (.cond .leaf .leaf)) .leaf)) .leaf))))) (.seq .leaf .leaf))))))
theorem internal_bytealg_hashStr_byte.eq (sep0 : Sl) (R : Value → Heap → Prop) (h : Heap) : internal_bytealg_hashStr_byte.body sep0 R h = evFn Try.prog Try.f61 internal_bytealg_hashStr_byte.ann [(.slice sep0.a sep0.n sep0.c)] R h := by kernel_rfl
theorem internal_bytealg_hashStr_byte.calls {sep0 : Sl} {R : Value → Heap → Prop} {h : Heap} (H : internal_bytealg_hashStr_byte.body sep0 R h) : HC Try.prog F.internal_bytealg_hashStr_byte #[(.slice sep0.a sep0.n sep0.c)] R h :=
  evFn_sound mixed Try.func61 (by kernel_rfl) (internal_bytealg_hashStr_byte.eq sep0 R h ▸ H)

/-! internal/bytealg.IndexRabinKarp[[]byte] -/
def internal_bytealg_IndexRabinKarp_byte.body (s0 : Sl) (sep1 : Sl) (R : Value → Heap → Prop) (h : Heap) : Prop :=
  callK Try.prog (Kd.pair (.int .u32) (.int .u32)) F.internal_bytealg_hashStr_byte #[(.slice sep1.a sep1.n sep1.c)] (fun (v_1 : Int × Int) (h : Heap) =>
  loopW (fun X_3 (s_2 : Int × Int) (h : Heap) =>
  if (decide (s_2.2 < ((sep1.n : Int)))) = true then
  idxK s0 s_2.2 (sizeOfT Try.prog T.uint8) (fun (a_4 : Addr) =>
  loadK (.int .u8) h ((some a_4)) (fun (v_5 : Int) =>
  X_3 (IntKind.u32.wrap ((IntKind.u32.wrap (s_2.1 * 16777619)) + (IntKind.u32.wrap v_5)), IntKind.i64.wrap (s_2.2 + 1)) h))
  else
  joinW (fun (s_6 : Unit) (h : Heap) =>
  loopW (fun X_8 (s_7 : Int × Int) (h : Heap) =>
  if (decide (s_7.2 < ((s0.n : Int)))) = true then
  idxK s0 s_7.2 (sizeOfT Try.prog T.uint8) (fun (a_9 : Addr) =>
  loadK (.int .u8) h ((some a_9)) (fun (v_10 : Int) =>
  idxK s0 (IntKind.i64.wrap (s_7.2 - ((sep1.n : Int)))) (sizeOfT Try.prog T.uint8) (fun (a_11 : Addr) =>
  loadK (.int .u8) h ((some a_11)) (fun (v_12 : Int) =>
  if ((IntKind.u32.wrap ((IntKind.u32.wrap ((IntKind.u32.wrap (s_7.1 * 16777619)) + (IntKind.u32.wrap v_10))) - (IntKind.u32.wrap (v_1.2 * (IntKind.u32.wrap v_12))))) == v_1.1) = true then
  sliceK s0 (some (IntKind.i64.wrap ((IntKind.i64.wrap (s_7.2 + 1)) - ((sep1.n : Int))))) (some (IntKind.i64.wrap (s_7.2 + 1))) none (sizeOfT Try.prog T.uint8) (fun (v_13 : Sl) =>
  ((opK Try.prog .str (convert T.sl_uint8 T.string (.slice v_13.a v_13.n v_13.c)) (fun (v_14 : ByteArray) (h : Heap) =>
  opK Try.prog .str (convert T.sl_uint8 T.string (.slice sep1.a sep1.n sep1.c)) (fun (v_15 : ByteArray) (h : Heap) =>
  if (v_14.toList == v_15.toList) = true then
  R (.int .i64 (IntKind.i64.wrap ((IntKind.i64.wrap (s_7.2 + 1)) - ((sep1.n : Int))))) h
  else
  X_8 (IntKind.u32.wrap ((IntKind.u32.wrap ((IntKind.u32.wrap (s_7.1 * 16777619)) + (IntKind.u32.wrap v_10))) - (IntKind.u32.wrap (v_1.2 * (IntKind.u32.wrap v_12)))), IntKind.i64.wrap (s_7.2 + 1)) h) h) h) ∧
  (opK Try.prog .str (convert T.sl_uint8 T.string (.slice sep1.a sep1.n sep1.c)) (fun (v_16 : ByteArray) (h : Heap) =>
  opK Try.prog .str (convert T.sl_uint8 T.string (.slice v_13.a v_13.n v_13.c)) (fun (v_17 : ByteArray) (h : Heap) =>
  if (v_17.toList == v_16.toList) = true then
  R (.int .i64 (IntKind.i64.wrap ((IntKind.i64.wrap (s_7.2 + 1)) - ((sep1.n : Int))))) h
  else
  X_8 (IntKind.u32.wrap ((IntKind.u32.wrap ((IntKind.u32.wrap (s_7.1 * 16777619)) + (IntKind.u32.wrap v_10))) - (IntKind.u32.wrap (v_1.2 * (IntKind.u32.wrap v_12)))), IntKind.i64.wrap (s_7.2 + 1)) h) h) h)))
  else
  X_8 (IntKind.u32.wrap ((IntKind.u32.wrap ((IntKind.u32.wrap (s_7.1 * 16777619)) + (IntKind.u32.wrap v_10))) - (IntKind.u32.wrap (v_1.2 * (IntKind.u32.wrap v_12)))), IntKind.i64.wrap (s_7.2 + 1)) h))))
  else
  R (.int .i64 ((-1))) h) (s_2.1, (sep1.n : Int)) h)
  (fun J_18 =>
  if (s_2.1 == v_1.1) = true then
  sliceK s0 none (some ((sep1.n : Int))) none (sizeOfT Try.prog T.uint8) (fun (v_19 : Sl) =>
  ((opK Try.prog .str (convert T.sl_uint8 T.string (.slice v_19.a v_19.n v_19.c)) (fun (v_20 : ByteArray) (h : Heap) =>
  opK Try.prog .str (convert T.sl_uint8 T.string (.slice sep1.a sep1.n sep1.c)) (fun (v_21 : ByteArray) (h : Heap) =>
  if (v_20.toList == v_21.toList) = true then
  R (.int .i64 0) h
  else
  J_18 () h) h) h) ∧
  (opK Try.prog .str (convert T.sl_uint8 T.string (.slice sep1.a sep1.n sep1.c)) (fun (v_22 : ByteArray) (h : Heap) =>
  opK Try.prog .str (convert T.sl_uint8 T.string (.slice v_19.a v_19.n v_19.c)) (fun (v_23 : ByteArray) (h : Heap) =>
  if (v_23.toList == v_22.toList) = true then
  R (.int .i64 0) h
  else
  J_18 () h) h) h)))
  else
  J_18 () h)) (0, 0) h) h
def internal_bytealg_IndexRabinKarp_byte.ann : Ann := (.seq .leaf (.seq .leaf (.seq .leaf (.seq .leaf (.seq (.seq .leaf (.block (.loop [(8, (.int .u32)), (9, (.int .i64))] (.seq (.seq .leaf (.cond .leaf .leaf)) (.seq (.block .leaf) .leaf))))) (.join [] (.seq (.any (.loc 0 (.loc 1 (.loc 2 (.loc 3 (.locA 4 (.loc 5 (.loc 6 (.loc 8 (.alt 7 (.last 9 (.loc 10 (.loc 11 .done))) (.last 9 (.last 7 (.loc 10 (.loc 11 .done)))))))) (.loc 5 (.loc 6 (.loc 7 (.loc 8 (.loc 9 (.loc 10 (.loc 11 .done))))))))))))) (.cond (.seq .leaf .leaf) .leaf)) (.seq (.seq .leaf (.block (.loop [(8, (.int .u32)), (10, (.int .i64))] (.seq (.seq .leaf (.cond .leaf .leaf)) (.block (.seq .leaf (.seq .leaf (.seq .leaf (.seq .leaf (.seq (.any (.loc 0 (.loc 1 (.loc 2 (.loc 3 (.locA 4 (.loc 5 (.loc 6 (.loc 7 (.loc 8 (.loc 9 (.loc 11 (.alt 10 (.last 12 (.loc 13 (.loc 14 .done))) (.last 12 (.last 10 (.loc 13 (.loc 14 .done))))))))))) (.loc 5 (.loc 6 (.loc 7 (.loc 8 (.loc 9 (.loc 10 (.loc 11 (.loc 12 (.loc 13 (.loc 14 .done)))))))))))))))) (.cond (.seq .leaf .leaf) .leaf))))))))))) (.seq .leaf .leaf))))))))
theorem internal_bytealg_IndexRabinKarp_byte.eq (s0 : Sl) (sep1 : Sl) (R : Value → Heap → Prop) (h : Heap) : internal_bytealg_IndexRabinKarp_byte.body s0 sep1 R h = evFn Try.prog Try.f47 internal_bytealg_IndexRabinKarp_byte.ann [(.slice s0.a s0.n s0.c), (.slice sep1.a sep1.n sep1.c)] R h := by kernel_rfl
theorem internal_bytealg_IndexRabinKarp_byte.calls {s0 : Sl} {sep1 : Sl} {R : Value → Heap → Prop} {h : Heap} (H : internal_bytealg_IndexRabinKarp_byte.body s0 sep1 R h) : HC Try.prog F.internal_bytealg_IndexRabinKarp_byte #[(.slice s0.a s0.n s0.c), (.slice sep1.a sep1.n sep1.c)] R h :=
  evFn_sound mixed Try.func47 (by kernel_rfl) (internal_bytealg_IndexRabinKarp_byte.eq s0 sep1 R h ▸ H)

/-! bytes.Index -/
def bytes_Index.body (s0 : Sl) (sep1 : Sl) (R : Value → Heap → Prop) (h : Heap) : Prop :=
  if (((sep1.n : Int)) == 0) = true then
  R (.int .i64 0) h
  else
  if (((sep1.n : Int)) == 1) = true then
  idxK sep1 0 (sizeOfT Try.prog T.uint8) (fun (a_1 : Addr) =>
  loadK (.int .u8) h ((some a_1)) (fun (v_2 : Int) =>
  callK Try.prog (.int .i64) F.bytes_IndexByte #[(.slice s0.a s0.n s0.c), (.int .u8 v_2)] (fun (v_3 : Int) (h : Heap) =>
  R (.int .i64 v_3) h) h))
  else
  if (((sep1.n : Int)) == ((s0.n : Int))) = true then
  callK Try.prog .bool F.bytes_Equal #[(.slice sep1.a sep1.n sep1.c), (.slice s0.a s0.n s0.c)] (fun (v_4 : Bool) (h : Heap) =>
  if v_4 = true then
  R (.int .i64 0) h
  else
  R (.int .i64 ((-1))) h) h
  else
  if (decide (((sep1.n : Int)) > ((s0.n : Int)))) = true then
  R (.int .i64 ((-1))) h
  else
  loadK (.int .i64) h ((some ⟨0, 0, none⟩)) (fun (v_5 : Int) =>
  if (decide (((sep1.n : Int)) ≤ v_5)) = true then
  if (decide (((s0.n : Int)) ≤ 64)) = true then
  externK Try.prog (.int .i64) F.internal_bytealg_Index #[(.slice s0.a s0.n s0.c), (.slice sep1.a sep1.n sep1.c)] (fun (v_6 : Int) (h : Heap) =>
  R (.int .i64 v_6) h) h
  else
  idxK sep1 0 (sizeOfT Try.prog T.uint8) (fun (a_7 : Addr) =>
  loadK (.int .u8) h ((some a_7)) (fun (v_8 : Int) =>
  idxK sep1 1 (sizeOfT Try.prog T.uint8) (fun (a_9 : Addr) =>
  loadK (.int .u8) h ((some a_9)) (fun (v_10 : Int) =>
  loopW (fun X_12 (s_11 : Int × Int) (h : Heap) =>
  if (decide (s_11.1 < (IntKind.i64.wrap ((IntKind.i64.wrap (((s0.n : Int)) - ((sep1.n : Int)))) + 1)))) = true then
  joinW (fun (s_13 : Int) (h : Heap) =>
  joinW (fun (s_14 : Unit) (h : Heap) =>
  callK Try.prog (.int .i64) F.internal_bytealg_Cutover #[(.int .i64 (IntKind.i64.wrap (s_13 + 1)))] (fun (v_15 : Int) (h : Heap) =>
  if (decide ((IntKind.i64.wrap (s_11.2 + 1)) > v_15)) = true then
  sliceK s0 (some (IntKind.i64.wrap (s_13 + 1))) none none (sizeOfT Try.prog T.uint8) (fun (v_16 : Sl) =>
  externK Try.prog (.int .i64) F.internal_bytealg_Index #[(.slice v_16.a v_16.n v_16.c), (.slice sep1.a sep1.n sep1.c)] (fun (v_17 : Int) (h : Heap) =>
  if (decide (v_17 ≥ 0)) = true then
  R (.int .i64 (IntKind.i64.wrap (v_17 + (IntKind.i64.wrap (s_13 + 1))))) h
  else
  R (.int .i64 ((-1))) h) h)
  else
  X_12 (IntKind.i64.wrap (s_13 + 1), IntKind.i64.wrap (s_11.2 + 1)) h) h)
  (fun J_18 =>
  idxK s0 (IntKind.i64.wrap (s_13 + 1)) (sizeOfT Try.prog T.uint8) (fun (a_19 : Addr) =>
  loadK (.int .u8) h ((some a_19)) (fun (v_20 : Int) =>
  if (v_20 == v_10) = true then
  sliceK s0 (some s_13) (some (IntKind.i64.wrap (s_13 + ((sep1.n : Int))))) none (sizeOfT Try.prog T.uint8) (fun (v_21 : Sl) =>
  callK Try.prog .bool F.bytes_Equal #[(.slice v_21.a v_21.n v_21.c), (.slice sep1.a sep1.n sep1.c)] (fun (v_22 : Bool) (h : Heap) =>
  if v_22 = true then
  R (.int .i64 s_13) h
  else
  J_18 () h) h)
  else
  J_18 () h))))
  (fun J_23 =>
  idxK s0 s_11.1 (sizeOfT Try.prog T.uint8) (fun (a_24 : Addr) =>
  loadK (.int .u8) h ((some a_24)) (fun (v_25 : Int) =>
  if (v_25 != v_8) = true then
  sliceK s0 (some (IntKind.i64.wrap (s_11.1 + 1))) (some (IntKind.i64.wrap ((IntKind.i64.wrap (((s0.n : Int)) - ((sep1.n : Int)))) + 1))) none (sizeOfT Try.prog T.uint8) (fun (v_26 : Sl) =>
  callK Try.prog (.int .i64) F.bytes_IndexByte #[(.slice v_26.a v_26.n v_26.c), (.int .u8 v_8)] (fun (v_27 : Int) (h : Heap) =>
  if (decide (v_27 < 0)) = true then
  R (.int .i64 ((-1))) h
  else
  J_23 (IntKind.i64.wrap (s_11.1 + (IntKind.i64.wrap (v_27 + 1)))) h) h)
  else
  J_23 s_11.1 h)))
  else
  R (.int .i64 ((-1))) h) (0, 0) h))))
  else
  idxK sep1 0 (sizeOfT Try.prog T.uint8) (fun (a_28 : Addr) =>
  loadK (.int .u8) h ((some a_28)) (fun (v_29 : Int) =>
  idxK sep1 1 (sizeOfT Try.prog T.uint8) (fun (a_30 : Addr) =>
  loadK (.int .u8) h ((some a_30)) (fun (v_31 : Int) =>
  loopW (fun X_33 (s_32 : Int × Int) (h : Heap) =>
  if (decide (s_32.1 < (IntKind.i64.wrap ((IntKind.i64.wrap (((s0.n : Int)) - ((sep1.n : Int)))) + 1)))) = true then
  joinW (fun (s_34 : Int) (h : Heap) =>
  joinW (fun (s_35 : Unit) (h : Heap) =>
  joinW (fun (s_36 : Bool) (h : Heap) =>
  if s_36 = true then
  sliceK s0 (some (IntKind.i64.wrap (s_34 + 1))) none none (sizeOfT Try.prog T.uint8) (fun (v_37 : Sl) =>
  callK Try.prog (.int .i64) F.internal_bytealg_IndexRabinKarp_byte #[(.slice v_37.a v_37.n v_37.c), (.slice sep1.a sep1.n sep1.c)] (fun (v_38 : Int) (h : Heap) =>
  if (decide (v_38 < 0)) = true then
  R (.int .i64 ((-1))) h
  else
  R (.int .i64 (IntKind.i64.wrap ((IntKind.i64.wrap (s_34 + 1)) + v_38))) h) h)
  else
  X_33 (IntKind.i64.wrap (s_34 + 1), IntKind.i64.wrap (s_32.2 + 1)) h)
  (fun J_39 =>
  shiftK 4
  (if (decide ((IntKind.i64.wrap (s_32.2 + 1)) ≥ (IntKind.i64.wrap (4 + (Int.fdiv (IntKind.i64.wrap (s_34 + 1)) (2 ^ min (Int.toNat 4) (IntKind.bits .i64))))))) = true then
  J_39 (decide ((IntKind.i64.wrap (s_34 + 1)) < (IntKind.i64.wrap ((IntKind.i64.wrap (((s0.n : Int)) - ((sep1.n : Int)))) + 1)))) h
  else
  J_39 false h)))
  (fun J_40 =>
  idxK s0 (IntKind.i64.wrap (s_34 + 1)) (sizeOfT Try.prog T.uint8) (fun (a_41 : Addr) =>
  loadK (.int .u8) h ((some a_41)) (fun (v_42 : Int) =>
  if (v_42 == v_31) = true then
  sliceK s0 (some s_34) (some (IntKind.i64.wrap (s_34 + ((sep1.n : Int))))) none (sizeOfT Try.prog T.uint8) (fun (v_43 : Sl) =>
  callK Try.prog .bool F.bytes_Equal #[(.slice v_43.a v_43.n v_43.c), (.slice sep1.a sep1.n sep1.c)] (fun (v_44 : Bool) (h : Heap) =>
  if v_44 = true then
  R (.int .i64 s_34) h
  else
  J_40 () h) h)
  else
  J_40 () h))))
  (fun J_45 =>
  idxK s0 s_32.1 (sizeOfT Try.prog T.uint8) (fun (a_46 : Addr) =>
  loadK (.int .u8) h ((some a_46)) (fun (v_47 : Int) =>
  if (v_47 != v_29) = true then
  sliceK s0 (some (IntKind.i64.wrap (s_32.1 + 1))) (some (IntKind.i64.wrap ((IntKind.i64.wrap (((s0.n : Int)) - ((sep1.n : Int)))) + 1))) none (sizeOfT Try.prog T.uint8) (fun (v_48 : Sl) =>
  callK Try.prog (.int .i64) F.bytes_IndexByte #[(.slice v_48.a v_48.n v_48.c), (.int .u8 v_29)] (fun (v_49 : Int) (h : Heap) =>
  if (decide (v_49 < 0)) = true then
  R (.int .i64 ((-1))) h
  else
  J_45 (IntKind.i64.wrap (s_32.1 + (IntKind.i64.wrap (v_49 + 1)))) h) h)
  else
  J_45 s_32.1 h)))
  else
  R (.int .i64 ((-1))) h) (0, 0) h)))))
def bytes_Index.ann : Ann := (.seq .leaf (.seq .leaf (.seq (.block (.seq .leaf (.cond (.seq .leaf .leaf) (.seq .leaf (.cond (.seq .leaf .leaf) (.seq .leaf (.cond (.seq (.seq .leaf (.cond (.seq .leaf .leaf) .leaf)) (.seq .leaf .leaf)) (.seq .leaf (.cond (.seq .leaf .leaf) (.seq .leaf (.cond (.seq (.seq .leaf (.cond (.seq .leaf .leaf) .leaf)) (.seq .leaf (.seq .leaf (.seq .leaf (.seq .leaf (.seq .leaf (.seq (.block (.loop [(8, (.int .i64)), (10, (.int .i64))] (.seq (.seq .leaf (.cond .leaf .leaf)) (.block (.join [(8, (.int .i64))] (.seq .leaf (.cond (.seq .leaf (.seq (.seq .leaf (.cond (.seq .leaf .leaf) .leaf)) .leaf)) .leaf)) (.join [] (.seq .leaf (.cond (.seq .leaf .leaf) .leaf)) (.seq .leaf (.seq .leaf (.seq .leaf (.cond (.seq .leaf (.seq (.seq .leaf (.cond (.seq .leaf .leaf) .leaf)) (.seq .leaf .leaf))) .leaf)))))))))) (.seq .leaf .leaf)))))))) .leaf))))))))))) (.seq .leaf (.seq .leaf (.seq .leaf (.seq .leaf (.seq .leaf (.seq (.block (.loop [(15, (.int .i64)), (16, (.int .i64))] (.seq (.seq .leaf (.cond .leaf .leaf)) (.block (.join [(15, (.int .i64))] (.seq .leaf (.cond (.seq .leaf (.seq (.seq .leaf (.cond .leaf .leaf)) .leaf)) .leaf)) (.join [] (.seq .leaf (.cond (.seq .leaf .leaf) .leaf)) (.seq .leaf (.seq .leaf (.join [(189, .bool)] .leaf (.cond (.seq .leaf (.seq (.seq .leaf (.cond (.seq .leaf .leaf) .leaf)) (.seq .leaf .leaf))) .leaf)))))))))) (.seq .leaf .leaf))))))))))
theorem bytes_Index.eq (s0 : Sl) (sep1 : Sl) (R : Value → Heap → Prop) (h : Heap) : bytes_Index.body s0 sep1 R h = evFn Try.prog Try.f27 bytes_Index.ann [(.slice s0.a s0.n s0.c), (.slice sep1.a sep1.n sep1.c)] R h := by kernel_rfl
theorem bytes_Index.calls {s0 : Sl} {sep1 : Sl} {R : Value → Heap → Prop} {h : Heap} (H : bytes_Index.body s0 sep1 R h) : HC Try.prog F.bytes_Index #[(.slice s0.a s0.n s0.c), (.slice sep1.a sep1.n sep1.c)] R h :=
  evFn_sound mixed Try.func27 (by kernel_rfl) (bytes_Index.eq s0 sep1 R h ▸ H)

/-! bytes.Contains -/
def bytes_Contains.body (b0 : Sl) (subslice1 : Sl) (R : Value → Heap → Prop) (h : Heap) : Prop :=
  callK Try.prog (.int .i64) F.bytes_Index #[(.slice b0.a b0.n b0.c), (.slice subslice1.a subslice1.n subslice1.c)] (fun (v_1 : Int) (h : Heap) =>
  R (.bool (v_1 != ((-1)))) h) h
def bytes_Contains.ann : Ann := (.seq .leaf (.seq .leaf .leaf))
theorem bytes_Contains.eq (b0 : Sl) (subslice1 : Sl) (R : Value → Heap → Prop) (h : Heap) : bytes_Contains.body b0 subslice1 R h = evFn Try.prog Try.f14 bytes_Contains.ann [(.slice b0.a b0.n b0.c), (.slice subslice1.a subslice1.n subslice1.c)] R h := by kernel_rfl
theorem bytes_Contains.calls {b0 : Sl} {subslice1 : Sl} {R : Value → Heap → Prop} {h : Heap} (H : bytes_Contains.body b0 subslice1 R h) : HC Try.prog F.bytes_Contains #[(.slice b0.a b0.n b0.c), (.slice subslice1.a subslice1.n subslice1.c)] R h :=
  evFn_sound mixed Try.func14 (by kernel_rfl) (bytes_Contains.eq b0 subslice1 R h ▸ H)

/-! zugzwang/tags.Mark -/
def tags_Mark.body (b0 : Sl) (R : Value → Heap → Prop) (h : Heap) : Prop :=
  newSlK h 8 #[(.int .u8 122), (.int .u8 117), (.int .u8 103), (.int .u8 122), (.int .u8 119), (.int .u8 97), (.int .u8 110), (.int .u8 103)] T.uint8 (fun (v_1 : Sl) (h : Heap) =>
  opK Try.prog .slice (convert T.sl_uint8 T.sl_uint8 (.slice v_1.a v_1.n v_1.c)) (fun (v_2 : Sl) (h : Heap) =>
  callK Try.prog .bool F.bytes_Contains #[(.slice b0.a b0.n b0.c), (.slice v_2.a v_2.n v_2.c)] (fun (v_3 : Bool) (h : Heap) =>
  R (.bool v_3) h) h) h)
def tags_Mark.ann : Ann := (.seq .leaf (.seq .leaf .leaf))
theorem tags_Mark.eq (b0 : Sl) (R : Value → Heap → Prop) (h : Heap) : tags_Mark.body b0 R h = evFn Try.prog Try.f5 tags_Mark.ann [(.slice b0.a b0.n b0.c)] R h := by kernel_rfl
theorem tags_Mark.calls {b0 : Sl} {R : Value → Heap → Prop} {h : Heap} (H : tags_Mark.body b0 R h) : HC Try.prog F.tags_Mark #[(.slice b0.a b0.n b0.c)] R h :=
  evFn_sound mixed Try.func5 (by kernel_rfl) (tags_Mark.eq b0 R h ▸ H)

/-! zugzwang/mac.keyed -/
def mac_keyed.body (key0 : Sl) (R : Value → Heap → Prop) (h : Heap) : Prop :=
  newK h (zerosOf Try.prog T.mac_block) T.mac_block (fun (b_1 : Option Addr) (h : Heap) =>
  joinW (fun (s_2 : Sl) (h : Heap) =>
  sliceArrK b_1 64 none none none (sizeOfT Try.prog T.uint8) (fun (v_3 : Sl) =>
  opK Try.prog (.int .i64) (Builtin.copy_ #[T.sl_uint8, T.sl_uint8] T.int #[(.slice v_3.a v_3.n v_3.c), (.slice s_2.a s_2.n s_2.c)]) (fun (v_4 : Int) (h : Heap) =>
  loadAggK (sizeOfT Try.prog T.mac_block) h b_1 (fun (v_5 : Array Value) =>
  storeAggK (sizeOfT Try.prog T.mac_block) h b_1 v_5 (fun (h : Heap) =>
  quietK Try.prog .agg (Instr.loadAt T.mac_block (.pointer b_1)) (fun (r_6 : Array Value) =>
  R (.agg r_6) h) h))) h))
  (fun J_7 =>
  if (decide (((key0.n : Int)) > 64)) = true then
  newSlK h 1 #[(.slice key0.a key0.n key0.c)] T.sl_uint8 (fun (v_8 : Sl) (h : Heap) =>
  callK Try.prog .agg F.digest_Of #[(.slice v_8.a v_8.n v_8.c)] (fun (v_9 : Array Value) (h : Heap) =>
  newK h (zerosOf Try.prog T.api_Tag) T.api_Tag (fun (t_10 : Option Addr) (h : Heap) =>
  storeAggK (sizeOfT Try.prog T.api_Tag) h t_10 v_9 (fun (h : Heap) =>
  sliceArrK t_10 32 none none none (sizeOfT Try.prog T.uint8) (fun (v_11 : Sl) =>
  J_7 v_11 h)))) h)
  else
  J_7 key0 h))
def mac_keyed.ann : Ann := (.seq .leaf (.join [(0, .slice)] (.seq .leaf (.cond (.seq .leaf .leaf) .leaf)) (.seq .leaf (.seq .leaf .leaf))))
theorem mac_keyed.eq (key0 : Sl) (R : Value → Heap → Prop) (h : Heap) : mac_keyed.body key0 R h = evFn Try.prog Try.f49 mac_keyed.ann [(.slice key0.a key0.n key0.c)] R h := by kernel_rfl
theorem mac_keyed.calls {key0 : Sl} {R : Value → Heap → Prop} {h : Heap} (H : mac_keyed.body key0 R h) : HC Try.prog F.mac_keyed #[(.slice key0.a key0.n key0.c)] R h :=
  evFn_sound mixed Try.func49 (by kernel_rfl) (mac_keyed.eq key0 R h ▸ H)

/-! (zugzwang/mac.block).turned -/
def mac_block_turned.body (b0 : Array Value) (by1 : Int) (R : Value → Heap → Prop) (h : Heap) : Prop :=
  newK h b0 T.mac_block (fun (b_1 : Option Addr) (h : Heap) =>
  loopW (fun X_3 (s_2 : Int) (h : Heap) =>
  if (decide (s_2 < 64)) = true then
  idxArrK b_1 64 s_2 (sizeOfT Try.prog T.uint8) (fun (a_4 : Addr) =>
  loadK (.int .u8) h ((some a_4)) (fun (v_5 : Int) =>
  idxArrK b_1 64 s_2 (sizeOfT Try.prog T.uint8) (fun (a_6 : Addr) =>
  storeK h ((some a_6)) (.int .u8 (IntKind.u8.wrap (BitVec.ofInt (IntKind.bits .u8) v_5 ^^^ BitVec.ofInt (IntKind.bits .u8) by1).toNat)) (fun (h : Heap) =>
  X_3 (IntKind.i64.wrap (s_2 + 1)) h))))
  else
  sliceArrK b_1 64 none none none (sizeOfT Try.prog T.uint8) (fun (v_7 : Sl) =>
  R (.slice v_7.a v_7.n v_7.c) h)) 0 h)
def mac_block_turned.ann : Ann := (.seq .leaf (.seq (.seq .leaf (.block (.loop [(6, (.int .i64))] (.seq .leaf (.seq (.cond .leaf .leaf) (.seq (.block (.seq .leaf .leaf)) .leaf)))))) (.seq .leaf .leaf)))
theorem mac_block_turned.eq (b0 : Array Value) (by1 : Int) (R : Value → Heap → Prop) (h : Heap) : mac_block_turned.body b0 by1 R h = evFn Try.prog Try.f62 mac_block_turned.ann [(.agg b0), (.int .u8 by1)] R h := by kernel_rfl
theorem mac_block_turned.calls {b0 : Array Value} {by1 : Int} {R : Value → Heap → Prop} {h : Heap} (H : mac_block_turned.body b0 by1 R h) : HC Try.prog F.mac_block_turned #[(.agg b0), (.int .u8 by1)] R h :=
  evFn_sound mixed Try.func62 (by kernel_rfl) (mac_block_turned.eq b0 by1 R h ▸ H)

/-! (zugzwang/mac.sealer).tag -/
def mac_sealer_tag.body (s0 : Array Value) (rows1 : Sl) (R : Value → Heap → Prop) (h : Heap) : Prop :=
  newK h s0 T.mac_sealer (fun (s_1 : Option Addr) (h : Heap) =>
  newK h (zerosOf Try.prog T.api_Tag) T.api_Tag (fun (v_2 : Option Addr) (h : Heap) =>
  fldK s_1 0 (fun (a_3 : Addr) =>
  loadAggK (sizeOfT Try.prog T.mac_block) h ((some a_3)) (fun (v_4 : Array Value) =>
  callK Try.prog .slice F.mac_block_turned #[(.agg v_4), (.int .u8 54)] (fun (v_5 : Sl) (h : Heap) =>
  newSlK h 1 #[(.slice v_5.a v_5.n v_5.c)] T.sl_uint8 (fun (v_6 : Sl) (h : Heap) =>
  opK Try.prog .slice (Builtin.append_ #[T.sl_sl_uint8, T.sl_sl_uint8] T.sl_sl_uint8 #[(.slice v_6.a v_6.n v_6.c), (.slice rows1.a rows1.n rows1.c)]) (fun (v_7 : Sl) (h : Heap) =>
  callK Try.prog .agg F.digest_Of #[(.slice v_7.a v_7.n v_7.c)] (fun (v_8 : Array Value) (h : Heap) =>
  newK h (zerosOf Try.prog T.api_Tag) T.api_Tag (fun (inner_9 : Option Addr) (h : Heap) =>
  storeAggK (sizeOfT Try.prog T.api_Tag) h inner_9 v_8 (fun (h : Heap) =>
  fldK s_1 0 (fun (a_10 : Addr) =>
  sliceArrK inner_9 32 none none none (sizeOfT Try.prog T.uint8) (fun (v_11 : Sl) =>
  loadAggK (sizeOfT Try.prog T.mac_block) h ((some a_10)) (fun (v_12 : Array Value) =>
  callK Try.prog .slice F.mac_block_turned #[(.agg v_12), (.int .u8 92)] (fun (v_13 : Sl) (h : Heap) =>
  newSlK h 2 #[(.slice v_13.a v_13.n v_13.c), (.slice v_11.a v_11.n v_11.c)] T.sl_uint8 (fun (v_14 : Sl) (h : Heap) =>
  callK Try.prog .agg F.digest_Of #[(.slice v_14.a v_14.n v_14.c)] (fun (v_15 : Array Value) (h : Heap) =>
  storeAggK (sizeOfT Try.prog T.api_Tag) h v_2 v_15 (fun (h : Heap) =>
  quietK Try.prog .agg (Instr.loadAt T.api_Tag (.pointer v_2)) (fun (r_16 : Array Value) =>
  R (.agg r_16) h) h)) h)) h)))))) h) h)) h))))
def mac_sealer_tag.ann : Ann := (.seq .leaf (.seq .leaf (.seq (.any (.loc 0 (.loc 3 (.st 1 116 (.last 2 (.last 4 (.last 5 (.last 6 .done)))))))) .leaf)))
theorem mac_sealer_tag.eq (s0 : Array Value) (rows1 : Sl) (R : Value → Heap → Prop) (h : Heap) : mac_sealer_tag.body s0 rows1 R h = evFn Try.prog Try.f50 mac_sealer_tag.ann [(.agg s0), (.slice rows1.a rows1.n rows1.c)] R h := by kernel_rfl
theorem mac_sealer_tag.calls {s0 : Array Value} {rows1 : Sl} {R : Value → Heap → Prop} {h : Heap} (H : mac_sealer_tag.body s0 rows1 R h) : HC Try.prog F.mac_sealer_tag #[(.agg s0), (.slice rows1.a rows1.n rows1.c)] R h :=
  evFn_sound mixed Try.func50 (by kernel_rfl) (mac_sealer_tag.eq s0 rows1 R h ▸ H)

/-! zugzwang/mac.Of -/
def mac_Of.body (key0 : Sl) (rows1 : Sl) (R : Value → Heap → Prop) (h : Heap) : Prop :=
  newK h (zerosOf Try.prog T.api_Tag) T.api_Tag (fun (v_1 : Option Addr) (h : Heap) =>
  callK Try.prog .agg F.mac_keyed #[(.slice key0.a key0.n key0.c)] (fun (v_2 : Array Value) (h : Heap) =>
  buildK Try.prog (Instr.build T.mac_sealer #[(0, (.agg v_2))]) (fun (v_3 : Array Value) =>
  callK Try.prog .agg F.mac_sealer_tag #[(.agg v_3), (.slice rows1.a rows1.n rows1.c)] (fun (v_4 : Array Value) (h : Heap) =>
  storeAggK (sizeOfT Try.prog T.api_Tag) h v_1 v_4 (fun (h : Heap) =>
  quietK Try.prog .agg (Instr.loadAt T.api_Tag (.pointer v_1)) (fun (r_5 : Array Value) =>
  R (.agg r_5) h) h)) h)) h)
def mac_Of.ann : Ann := (.seq .leaf (.seq .leaf .leaf))
theorem mac_Of.eq (key0 : Sl) (rows1 : Sl) (R : Value → Heap → Prop) (h : Heap) : mac_Of.body key0 rows1 R h = evFn Try.prog Try.f29 mac_Of.ann [(.slice key0.a key0.n key0.c), (.slice rows1.a rows1.n rows1.c)] R h := by kernel_rfl
theorem mac_Of.calls {key0 : Sl} {rows1 : Sl} {R : Value → Heap → Prop} {h : Heap} (H : mac_Of.body key0 rows1 R h) : HC Try.prog F.mac_Of #[(.slice key0.a key0.n key0.c), (.slice rows1.a rows1.n rows1.c)] R h :=
  evFn_sound mixed Try.func29 (by kernel_rfl) (mac_Of.eq key0 rows1 R h ▸ H)

/-! (*zugzwang/tags.Maker).Mac -/
def tags_Maker_Mac.body (m0 : Option Addr) (key1 : Sl) (rows2 : Sl) (R : Value → Heap → Prop) (h : Heap) : Prop :=
  newK h (zerosOf Try.prog T.api_Tag) T.api_Tag (fun (v_1 : Option Addr) (h : Heap) =>
  callK Try.prog .bool F.tags_Maker_there #[(.pointer m0)] (fun (v_2 : Bool) (h : Heap) =>
  if (!v_2) = true then
  buildK Try.prog (Instr.build T.api_Tag #[]) (fun (v_3 : Array Value) =>
  storeAggK (sizeOfT Try.prog T.api_Tag) h v_1 v_3 (fun (h : Heap) =>
  quietK Try.prog .agg (Instr.loadAt T.api_Tag (.pointer v_1)) (fun (r_4 : Array Value) =>
  R (.agg r_4) h) h))
  else
  derefK m0 (fun (a_5 : Addr) =>
  fldK ((some a_5)) 1 (fun (a_6 : Addr) =>
  loadK .bool h ((some a_6)) (fun (v_7 : Bool) =>
  if v_7 = true then
  callK Try.prog .agg F.mac_Of #[(.slice key1.a key1.n key1.c), (.slice rows2.a rows2.n rows2.c)] (fun (v_8 : Array Value) (h : Heap) =>
  storeAggK (sizeOfT Try.prog T.api_Tag) h v_1 v_8 (fun (h : Heap) =>
  quietK Try.prog .agg (Instr.loadAt T.api_Tag (.pointer v_1)) (fun (r_9 : Array Value) =>
  R (.agg r_9) h) h)) h
  else
  derefK m0 (fun (a_10 : Addr) =>
  fldK ((some a_10)) 0 (fun (a_11 : Addr) =>
  loadAggK (sizeOfT Try.prog T.tags_book) h ((some a_11)) (fun (v_12 : Array Value) =>
  ((opK Try.prog .str (convert T.sl_uint8 T.string (.slice key1.a key1.n key1.c)) (fun (v_13 : ByteArray) (h : Heap) =>
  callK Try.prog .slice F.slices_Concat_byte_byte #[(.slice rows2.a rows2.n rows2.c)] (fun (v_14 : Sl) (h : Heap) =>
  stillAggK (sizeOfT Try.prog T.tags_book) h ((some a_11)) v_12 ∧
  opK Try.prog .str (convert T.sl_uint8 T.string (.slice v_14.a v_14.n v_14.c)) (fun (v_15 : ByteArray) (h : Heap) =>
  buildK Try.prog (Instr.build T.tags_thing #[(0, (.int .u8 109)), (1, (.string v_13)), (2, (.string v_15))]) (fun (v_16 : Array Value) =>
  callK Try.prog .agg F.tags_book_ask #[(.agg v_12), (.agg v_16)] (fun (v_17 : Array Value) (h : Heap) =>
  storeAggK (sizeOfT Try.prog T.api_Tag) h v_1 v_17 (fun (h : Heap) =>
  quietK Try.prog .agg (Instr.loadAt T.api_Tag (.pointer v_1)) (fun (r_18 : Array Value) =>
  R (.agg r_18) h) h)) h)) h) h) h) ∧
  (callK Try.prog .slice F.slices_Concat_byte_byte #[(.slice rows2.a rows2.n rows2.c)] (fun (v_19 : Sl) (h : Heap) =>
  stillAggK (sizeOfT Try.prog T.tags_book) h ((some a_11)) v_12 ∧
  ((opK Try.prog .str (convert T.sl_uint8 T.string (.slice key1.a key1.n key1.c)) (fun (v_20 : ByteArray) (h : Heap) =>
  opK Try.prog .str (convert T.sl_uint8 T.string (.slice v_19.a v_19.n v_19.c)) (fun (v_21 : ByteArray) (h : Heap) =>
  buildK Try.prog (Instr.build T.tags_thing #[(0, (.int .u8 109)), (1, (.string v_20)), (2, (.string v_21))]) (fun (v_22 : Array Value) =>
  callK Try.prog .agg F.tags_book_ask #[(.agg v_12), (.agg v_22)] (fun (v_23 : Array Value) (h : Heap) =>
  storeAggK (sizeOfT Try.prog T.api_Tag) h v_1 v_23 (fun (h : Heap) =>
  quietK Try.prog .agg (Instr.loadAt T.api_Tag (.pointer v_1)) (fun (r_24 : Array Value) =>
  R (.agg r_24) h) h)) h)) h) h) ∧
  (opK Try.prog .str (convert T.sl_uint8 T.string (.slice v_19.a v_19.n v_19.c)) (fun (v_25 : ByteArray) (h : Heap) =>
  opK Try.prog .str (convert T.sl_uint8 T.string (.slice key1.a key1.n key1.c)) (fun (v_26 : ByteArray) (h : Heap) =>
  buildK Try.prog (Instr.build T.tags_thing #[(0, (.int .u8 109)), (1, (.string v_26)), (2, (.string v_25))]) (fun (v_27 : Array Value) =>
  callK Try.prog .agg F.tags_book_ask #[(.agg v_12), (.agg v_27)] (fun (v_28 : Array Value) (h : Heap) =>
  storeAggK (sizeOfT Try.prog T.api_Tag) h v_1 v_28 (fun (h : Heap) =>
  quietK Try.prog .agg (Instr.loadAt T.api_Tag (.pointer v_1)) (fun (r_29 : Array Value) =>
  R (.agg r_29) h) h)) h)) h) h))) h))))))))) h)
def tags_Maker_Mac.ann : Ann := (.seq .leaf (.seq (.block (.seq .leaf (.cond (.seq .leaf .leaf) (.seq .leaf (.cond (.seq .leaf .leaf) .leaf))))) (.seq (.any (.loc 0 (.loc 1 (.loc 2 (.loc 4 (.loc 6 (.st 3 3072 (.alt 5 (.last 7 (.last 8 (.loc 9 (.last 10 (.last 11 .done))))) (.last 7 (.alt 5 (.last 8 (.loc 9 (.last 10 (.last 11 .done)))) (.last 8 (.last 5 (.loc 9 (.last 10 (.last 11 .done))))))))))))))) .leaf)))
theorem tags_Maker_Mac.eq (m0 : Option Addr) (key1 : Sl) (rows2 : Sl) (R : Value → Heap → Prop) (h : Heap) : tags_Maker_Mac.body m0 key1 rows2 R h = evFn Try.prog Try.f16 tags_Maker_Mac.ann [(.pointer m0), (.slice key1.a key1.n key1.c), (.slice rows2.a rows2.n rows2.c)] R h := by kernel_rfl
theorem tags_Maker_Mac.calls {m0 : Option Addr} {key1 : Sl} {rows2 : Sl} {R : Value → Heap → Prop} {h : Heap} (H : tags_Maker_Mac.body m0 key1 rows2 R h) : HC Try.prog F.tags_Maker_Mac #[(.pointer m0), (.slice key1.a key1.n key1.c), (.slice rows2.a rows2.n rows2.c)] R h :=
  evFn_sound mixed Try.func16 (by kernel_rfl) (tags_Maker_Mac.eq m0 key1 rows2 R h ▸ H)

/-! zugzwang/zugzwanglaw24.view -/
def law24_view.body (game0 : Array Value) (n1 : Int) (x2 : Array Value) (asked3 : Sl) (k4 : Int) (R : Value → Heap → Prop) (h : Heap) : Prop :=
  newK h game0 T.api_Tag (fun (game_1 : Option Addr) (h : Heap) =>
  newK h x2 T.api_Move (fun (x_2 : Option Addr) (h : Heap) =>
  callK Try.prog .ptr F.tags_New #[(.bool false), (.slice none 0 0)] (fun (v_3 : Option Addr) (h : Heap) =>
  loopW (fun X_5 (s_4 : Sl × Int) (h : Heap) =>
  if (decide (s_4.2 < 2)) = true then
  loopW (fun X_7 (s_6 : Sl × Int) (h : Heap) =>
  if (decide (s_6.2 < ((asked3.n : Int)))) = true then
  idxK asked3 s_6.2 (sizeOfT Try.prog T.sl_uint8) (fun (a_8 : Addr) =>
  loadK .slice h ((some a_8)) (fun (v_9 : Sl) =>
  callK Try.prog .bool F.tags_Mark #[(.slice v_9.a v_9.n v_9.c)] (fun (v_10 : Bool) (h : Heap) =>
  if (!v_10) = true then
  idxK asked3 s_6.2 (sizeOfT Try.prog T.sl_uint8) (fun (a_11 : Addr) =>
  sliceArrK game_1 32 none none none (sizeOfT Try.prog T.uint8) (fun (v_12 : Sl) =>
  idxK asked3 s_6.2 (sizeOfT Try.prog T.sl_uint8) (fun (a_13 : Addr) =>
  loadK .slice h ((some a_11)) (fun (v_14 : Sl) =>
  loadK .slice h ((some a_13)) (fun (v_15 : Sl) =>
  ((newSlK h 1 #[(.slice v_14.a v_14.n v_14.c)] T.sl_uint8 (fun (v_16 : Sl) (h : Heap) =>
  ((callK Try.prog .agg F.tags_Maker_Sum #[(.pointer v_3), (.slice v_16.a v_16.n v_16.c)] (fun (v_17 : Array Value) (h : Heap) =>
  stillK .slice h ((some a_13)) v_15 ∧
  newSlK h 1 #[(.slice v_15.a v_15.n v_15.c)] T.sl_uint8 (fun (v_18 : Sl) (h : Heap) =>
  callK Try.prog .agg F.tags_Maker_Mac #[(.pointer v_3), (.slice v_12.a v_12.n v_12.c), (.slice v_18.a v_18.n v_18.c)] (fun (v_19 : Array Value) (h : Heap) =>
  opK Try.prog .slice (Instr.buildSlice T.sl_api_Tag 2 #[(0, (.agg v_17)), (1, (.agg v_19))]) (fun (v_20 : Sl) (h : Heap) =>
  opK Try.prog .slice (Builtin.append_ #[T.sl_api_Tag, T.sl_api_Tag] T.sl_api_Tag #[(.slice s_6.1.a s_6.1.n s_6.1.c), (.slice v_20.a v_20.n v_20.c)]) (fun (v_21 : Sl) (h : Heap) =>
  X_7 (v_21, IntKind.i64.wrap (s_6.2 + 1)) h) h) h) h)) h) ∧
  (newSlK h 1 #[(.slice v_15.a v_15.n v_15.c)] T.sl_uint8 (fun (v_22 : Sl) (h : Heap) =>
  callK Try.prog .agg F.tags_Maker_Sum #[(.pointer v_3), (.slice v_16.a v_16.n v_16.c)] (fun (v_23 : Array Value) (h : Heap) =>
  callK Try.prog .agg F.tags_Maker_Mac #[(.pointer v_3), (.slice v_12.a v_12.n v_12.c), (.slice v_22.a v_22.n v_22.c)] (fun (v_24 : Array Value) (h : Heap) =>
  opK Try.prog .slice (Instr.buildSlice T.sl_api_Tag 2 #[(0, (.agg v_23)), (1, (.agg v_24))]) (fun (v_25 : Sl) (h : Heap) =>
  opK Try.prog .slice (Builtin.append_ #[T.sl_api_Tag, T.sl_api_Tag] T.sl_api_Tag #[(.slice s_6.1.a s_6.1.n s_6.1.c), (.slice v_25.a v_25.n v_25.c)]) (fun (v_26 : Sl) (h : Heap) =>
  X_7 (v_26, IntKind.i64.wrap (s_6.2 + 1)) h) h) h) h) h))))) ∧
  (newSlK h 1 #[(.slice v_15.a v_15.n v_15.c)] T.sl_uint8 (fun (v_27 : Sl) (h : Heap) =>
  newSlK h 1 #[(.slice v_14.a v_14.n v_14.c)] T.sl_uint8 (fun (v_28 : Sl) (h : Heap) =>
  callK Try.prog .agg F.tags_Maker_Sum #[(.pointer v_3), (.slice v_28.a v_28.n v_28.c)] (fun (v_29 : Array Value) (h : Heap) =>
  callK Try.prog .agg F.tags_Maker_Mac #[(.pointer v_3), (.slice v_12.a v_12.n v_12.c), (.slice v_27.a v_27.n v_27.c)] (fun (v_30 : Array Value) (h : Heap) =>
  opK Try.prog .slice (Instr.buildSlice T.sl_api_Tag 2 #[(0, (.agg v_29)), (1, (.agg v_30))]) (fun (v_31 : Sl) (h : Heap) =>
  opK Try.prog .slice (Builtin.append_ #[T.sl_api_Tag, T.sl_api_Tag] T.sl_api_Tag #[(.slice s_6.1.a s_6.1.n s_6.1.c), (.slice v_31.a v_31.n v_31.c)]) (fun (v_32 : Sl) (h : Heap) =>
  X_7 (v_32, IntKind.i64.wrap (s_6.2 + 1)) h) h) h) h) h)))))))))
  else
  X_7 (s_6.1, IntKind.i64.wrap (s_6.2 + 1)) h) h))
  else
  if (s_4.2 == 0) = true then
  joinW (fun (s_33 : Option Addr × Int) (h : Heap) =>
  if (s_33.2 != 0) = true then
  R (.tuple #[(.slice none 0 0), (.int .i64 s_33.2)]) h
  else
  fldK s_33.1 6 (fun (a_34 : Addr) =>
  sliceArrK game_1 32 none none none (sizeOfT Try.prog T.uint8) (fun (v_35 : Sl) =>
  fldK s_33.1 6 (fun (a_36 : Addr) =>
  sliceArrK ((some a_36)) 32 none none none (sizeOfT Try.prog T.uint8) (fun (v_37 : Sl) =>
  loadAggK (sizeOfT Try.prog T.api_Tag) h ((some a_34)) (fun (v_38 : Array Value) =>
  newSlK h 1 #[(.slice v_37.a v_37.n v_37.c)] T.sl_uint8 (fun (v_39 : Sl) (h : Heap) =>
  callK Try.prog .agg F.tags_Maker_Mac #[(.pointer v_3), (.slice v_35.a v_35.n v_35.c), (.slice v_39.a v_39.n v_39.c)] (fun (v_40 : Array Value) (h : Heap) =>
  stillAggK (sizeOfT Try.prog T.api_Tag) h ((some a_34)) v_38 ∧
  opK Try.prog .slice (Instr.buildSlice T.sl_api_Tag 2 #[(0, (.agg v_38)), (1, (.agg v_40))]) (fun (v_41 : Sl) (h : Heap) =>
  opK Try.prog .slice (Builtin.append_ #[T.sl_api_Tag, T.sl_api_Tag] T.sl_api_Tag #[(.slice s_6.1.a s_6.1.n s_6.1.c), (.slice v_41.a v_41.n v_41.c)]) (fun (v_42 : Sl) (h : Heap) =>
  X_5 (v_42, IntKind.i64.wrap (s_4.2 + 1)) h) h) h) h)))))))
  (fun J_43 =>
  loadAggK (sizeOfT Try.prog T.api_Tag) h game_1 (fun (v_44 : Array Value) =>
  loadAggK (sizeOfT Try.prog T.api_Move) h x_2 (fun (v_45 : Array Value) =>
  ((callK Try.prog .agg F.tags_Maker_Draw #[(.pointer v_3), (.int .i64 k4)] (fun (v_46 : Array Value) (h : Heap) =>
  stillAggK (sizeOfT Try.prog T.api_Move) h x_2 v_45 ∧
  stillAggK (sizeOfT Try.prog T.api_Tag) h game_1 v_44 ∧
  ((callK Try.prog (Kd.trip .agg .agg (.int .i64)) F.seal_Make #[(.pointer v_3), (.agg v_44), (.int .i64 n1), (.agg v_45), (.agg v_46)] (fun (v_47 : Array Value × Array Value × Int) (h : Heap) =>
  ((newK h (zerosOf Try.prog T.api_Body) T.api_Body (fun (b_48 : Option Addr) (h : Heap) =>
  newK h (zerosOf Try.prog T.api_Body) T.api_Body (fun (v_49 : Option Addr) (h : Heap) =>
  storeAggK (sizeOfT Try.prog T.api_Body) h b_48 v_47.1 (fun (h : Heap) =>
  storeAggK (sizeOfT Try.prog T.api_Body) h v_49 v_47.2.1 (fun (h : Heap) =>
  J_43 (b_48, v_47.2.2) h))))) ∧
  (newK h (zerosOf Try.prog T.api_Body) T.api_Body (fun (v_50 : Option Addr) (h : Heap) =>
  newK h (zerosOf Try.prog T.api_Body) T.api_Body (fun (b_51 : Option Addr) (h : Heap) =>
  storeAggK (sizeOfT Try.prog T.api_Body) h b_51 v_47.1 (fun (h : Heap) =>
  storeAggK (sizeOfT Try.prog T.api_Body) h v_50 v_47.2.1 (fun (h : Heap) =>
  J_43 (b_51, v_47.2.2) h))))))) h) ∧
  (((newK h (zerosOf Try.prog T.api_Body) T.api_Body (fun (b_52 : Option Addr) (h : Heap) =>
  ((callK Try.prog (Kd.trip .agg .agg (.int .i64)) F.seal_Make #[(.pointer v_3), (.agg v_44), (.int .i64 n1), (.agg v_45), (.agg v_46)] (fun (v_53 : Array Value × Array Value × Int) (h : Heap) =>
  newK h (zerosOf Try.prog T.api_Body) T.api_Body (fun (v_54 : Option Addr) (h : Heap) =>
  storeAggK (sizeOfT Try.prog T.api_Body) h b_52 v_53.1 (fun (h : Heap) =>
  storeAggK (sizeOfT Try.prog T.api_Body) h v_54 v_53.2.1 (fun (h : Heap) =>
  J_43 (b_52, v_53.2.2) h)))) h) ∧
  (newK h (zerosOf Try.prog T.api_Body) T.api_Body (fun (v_55 : Option Addr) (h : Heap) =>
  callK Try.prog (Kd.trip .agg .agg (.int .i64)) F.seal_Make #[(.pointer v_3), (.agg v_44), (.int .i64 n1), (.agg v_45), (.agg v_46)] (fun (v_56 : Array Value × Array Value × Int) (h : Heap) =>
  storeAggK (sizeOfT Try.prog T.api_Body) h b_52 v_56.1 (fun (h : Heap) =>
  storeAggK (sizeOfT Try.prog T.api_Body) h v_55 v_56.2.1 (fun (h : Heap) =>
  J_43 (b_52, v_56.2.2) h))) h))))) ∧
  (newK h (zerosOf Try.prog T.api_Body) T.api_Body (fun (v_57 : Option Addr) (h : Heap) =>
  ((callK Try.prog (Kd.trip .agg .agg (.int .i64)) F.seal_Make #[(.pointer v_3), (.agg v_44), (.int .i64 n1), (.agg v_45), (.agg v_46)] (fun (v_58 : Array Value × Array Value × Int) (h : Heap) =>
  newK h (zerosOf Try.prog T.api_Body) T.api_Body (fun (b_59 : Option Addr) (h : Heap) =>
  storeAggK (sizeOfT Try.prog T.api_Body) h b_59 v_58.1 (fun (h : Heap) =>
  storeAggK (sizeOfT Try.prog T.api_Body) h v_57 v_58.2.1 (fun (h : Heap) =>
  J_43 (b_59, v_58.2.2) h)))) h) ∧
  (newK h (zerosOf Try.prog T.api_Body) T.api_Body (fun (b_60 : Option Addr) (h : Heap) =>
  callK Try.prog (Kd.trip .agg .agg (.int .i64)) F.seal_Make #[(.pointer v_3), (.agg v_44), (.int .i64 n1), (.agg v_45), (.agg v_46)] (fun (v_61 : Array Value × Array Value × Int) (h : Heap) =>
  storeAggK (sizeOfT Try.prog T.api_Body) h b_60 v_61.1 (fun (h : Heap) =>
  storeAggK (sizeOfT Try.prog T.api_Body) h v_57 v_61.2.1 (fun (h : Heap) =>
  J_43 (b_60, v_61.2.2) h))) h))))))))) h) ∧
  (((newK h (zerosOf Try.prog T.api_Body) T.api_Body (fun (b_62 : Option Addr) (h : Heap) =>
  ((callK Try.prog .agg F.tags_Maker_Draw #[(.pointer v_3), (.int .i64 k4)] (fun (v_63 : Array Value) (h : Heap) =>
  stillAggK (sizeOfT Try.prog T.api_Move) h x_2 v_45 ∧
  stillAggK (sizeOfT Try.prog T.api_Tag) h game_1 v_44 ∧
  ((callK Try.prog (Kd.trip .agg .agg (.int .i64)) F.seal_Make #[(.pointer v_3), (.agg v_44), (.int .i64 n1), (.agg v_45), (.agg v_63)] (fun (v_64 : Array Value × Array Value × Int) (h : Heap) =>
  newK h (zerosOf Try.prog T.api_Body) T.api_Body (fun (v_65 : Option Addr) (h : Heap) =>
  storeAggK (sizeOfT Try.prog T.api_Body) h b_62 v_64.1 (fun (h : Heap) =>
  storeAggK (sizeOfT Try.prog T.api_Body) h v_65 v_64.2.1 (fun (h : Heap) =>
  J_43 (b_62, v_64.2.2) h)))) h) ∧
  (newK h (zerosOf Try.prog T.api_Body) T.api_Body (fun (v_66 : Option Addr) (h : Heap) =>
  callK Try.prog (Kd.trip .agg .agg (.int .i64)) F.seal_Make #[(.pointer v_3), (.agg v_44), (.int .i64 n1), (.agg v_45), (.agg v_63)] (fun (v_67 : Array Value × Array Value × Int) (h : Heap) =>
  storeAggK (sizeOfT Try.prog T.api_Body) h b_62 v_67.1 (fun (h : Heap) =>
  storeAggK (sizeOfT Try.prog T.api_Body) h v_66 v_67.2.1 (fun (h : Heap) =>
  J_43 (b_62, v_67.2.2) h))) h)))) h) ∧
  (newK h (zerosOf Try.prog T.api_Body) T.api_Body (fun (v_68 : Option Addr) (h : Heap) =>
  callK Try.prog .agg F.tags_Maker_Draw #[(.pointer v_3), (.int .i64 k4)] (fun (v_69 : Array Value) (h : Heap) =>
  stillAggK (sizeOfT Try.prog T.api_Move) h x_2 v_45 ∧
  stillAggK (sizeOfT Try.prog T.api_Tag) h game_1 v_44 ∧
  callK Try.prog (Kd.trip .agg .agg (.int .i64)) F.seal_Make #[(.pointer v_3), (.agg v_44), (.int .i64 n1), (.agg v_45), (.agg v_69)] (fun (v_70 : Array Value × Array Value × Int) (h : Heap) =>
  storeAggK (sizeOfT Try.prog T.api_Body) h b_62 v_70.1 (fun (h : Heap) =>
  storeAggK (sizeOfT Try.prog T.api_Body) h v_68 v_70.2.1 (fun (h : Heap) =>
  J_43 (b_62, v_70.2.2) h))) h) h))))) ∧
  (newK h (zerosOf Try.prog T.api_Body) T.api_Body (fun (v_71 : Option Addr) (h : Heap) =>
  ((callK Try.prog .agg F.tags_Maker_Draw #[(.pointer v_3), (.int .i64 k4)] (fun (v_72 : Array Value) (h : Heap) =>
  stillAggK (sizeOfT Try.prog T.api_Move) h x_2 v_45 ∧
  stillAggK (sizeOfT Try.prog T.api_Tag) h game_1 v_44 ∧
  ((callK Try.prog (Kd.trip .agg .agg (.int .i64)) F.seal_Make #[(.pointer v_3), (.agg v_44), (.int .i64 n1), (.agg v_45), (.agg v_72)] (fun (v_73 : Array Value × Array Value × Int) (h : Heap) =>
  newK h (zerosOf Try.prog T.api_Body) T.api_Body (fun (b_74 : Option Addr) (h : Heap) =>
  storeAggK (sizeOfT Try.prog T.api_Body) h b_74 v_73.1 (fun (h : Heap) =>
  storeAggK (sizeOfT Try.prog T.api_Body) h v_71 v_73.2.1 (fun (h : Heap) =>
  J_43 (b_74, v_73.2.2) h)))) h) ∧
  (newK h (zerosOf Try.prog T.api_Body) T.api_Body (fun (b_75 : Option Addr) (h : Heap) =>
  callK Try.prog (Kd.trip .agg .agg (.int .i64)) F.seal_Make #[(.pointer v_3), (.agg v_44), (.int .i64 n1), (.agg v_45), (.agg v_72)] (fun (v_76 : Array Value × Array Value × Int) (h : Heap) =>
  storeAggK (sizeOfT Try.prog T.api_Body) h b_75 v_76.1 (fun (h : Heap) =>
  storeAggK (sizeOfT Try.prog T.api_Body) h v_71 v_76.2.1 (fun (h : Heap) =>
  J_43 (b_75, v_76.2.2) h))) h)))) h) ∧
  (newK h (zerosOf Try.prog T.api_Body) T.api_Body (fun (b_77 : Option Addr) (h : Heap) =>
  callK Try.prog .agg F.tags_Maker_Draw #[(.pointer v_3), (.int .i64 k4)] (fun (v_78 : Array Value) (h : Heap) =>
  stillAggK (sizeOfT Try.prog T.api_Move) h x_2 v_45 ∧
  stillAggK (sizeOfT Try.prog T.api_Tag) h game_1 v_44 ∧
  callK Try.prog (Kd.trip .agg .agg (.int .i64)) F.seal_Make #[(.pointer v_3), (.agg v_44), (.int .i64 n1), (.agg v_45), (.agg v_78)] (fun (v_79 : Array Value × Array Value × Int) (h : Heap) =>
  storeAggK (sizeOfT Try.prog T.api_Body) h b_77 v_79.1 (fun (h : Heap) =>
  storeAggK (sizeOfT Try.prog T.api_Body) h v_71 v_79.2.1 (fun (h : Heap) =>
  J_43 (b_77, v_79.2.2) h))) h) h)))))))))))
  else
  X_5 (s_6.1, IntKind.i64.wrap (s_4.2 + 1)) h) (s_4.1, 0) h
  else
  R (.tuple #[(.slice s_4.1.a s_4.1.n s_4.1.c), (.int .i64 0)]) h) (⟨none, 0, 0⟩, 0) h) h))
def law24_view.ann : Ann := (.seq .leaf (.seq .leaf (.seq .leaf (.seq (.seq .leaf (.block (.loop [(13, .slice), (14, (.int .i64))] (.seq (.seq .leaf (.cond .leaf .leaf)) (.seq (.block (.seq (.seq .leaf (.block (.loop [(13, .slice), (15, (.int .i64))] (.seq (.seq .leaf (.cond .leaf .leaf)) (.seq (.block (.seq .leaf (.cond (.any (.loc 0 (.loc 1 (.loc 2 (.loc 3 (.loc 4 (.loc 8 (.loc 9 (.loc 10 (.loc 11 (.loc 12 (.st 5 491712 (.st 13 507904 (.alt 6 (.alt 7 (.last 14 (.last 15 (.last 16 (.last 17 (.loc 18 .done))))) (.last 14 (.last 7 (.last 15 (.last 16 (.last 17 (.loc 18 .done))))))) (.last 14 (.last 6 (.last 7 (.last 15 (.last 16 (.last 17 (.loc 18 .done))))))))))))))))))))) .leaf))) .leaf))))) (.seq .leaf (.cond (.join [(16, .ptr), (18, (.int .i64))] (.any (.loc 0 (.loc 2 (.loc 4 (.loc 5 (.st 1 118656 (.st 3 118656 (.alt 6 (.alt 7 (.loc 8 (.loc 9 (.loc 10 (.loc 11 (.alt 12 (.last 13 (.last 14 (.last 15 (.loc 16 .done)))) (.last 13 (.last 12 (.last 14 (.last 15 (.loc 16 .done)))))))))) (.alt 12 (.alt 7 (.loc 8 (.loc 9 (.loc 10 (.loc 11 (.last 13 (.last 14 (.last 15 (.loc 16 .done)))))))) (.last 13 (.last 7 (.loc 8 (.loc 9 (.loc 10 (.loc 11 (.last 14 (.last 15 (.loc 16 .done)))))))))) (.last 13 (.alt 7 (.loc 8 (.loc 9 (.loc 10 (.loc 11 (.last 12 (.last 14 (.last 15 (.loc 16 .done)))))))) (.last 12 (.last 7 (.loc 8 (.loc 9 (.loc 10 (.loc 11 (.last 14 (.last 15 (.loc 16 .done))))))))))))) (.alt 12 (.alt 6 (.alt 7 (.loc 8 (.loc 9 (.loc 10 (.loc 11 (.last 13 (.last 14 (.last 15 (.loc 16 .done)))))))) (.last 13 (.last 7 (.loc 8 (.loc 9 (.loc 10 (.loc 11 (.last 14 (.last 15 (.loc 16 .done)))))))))) (.last 13 (.last 6 (.last 7 (.loc 8 (.loc 9 (.loc 10 (.loc 11 (.last 14 (.last 15 (.loc 16 .done))))))))))) (.last 13 (.alt 6 (.alt 7 (.loc 8 (.loc 9 (.loc 10 (.loc 11 (.last 12 (.last 14 (.last 15 (.loc 16 .done)))))))) (.last 12 (.last 7 (.loc 8 (.loc 9 (.loc 10 (.loc 11 (.last 14 (.last 15 (.loc 16 .done)))))))))) (.last 12 (.last 6 (.last 7 (.loc 8 (.loc 9 (.loc 10 (.loc 11 (.last 14 (.last 15 (.loc 16 .done))))))))))))))))))))) (.seq (.seq .leaf (.cond (.seq .leaf .leaf) .leaf)) (.any (.loc 0 (.loc 1 (.loc 3 (.loc 4 (.loc 5 (.loc 6 (.st 2 3584 (.last 7 (.last 8 (.last 9 (.last 10 (.loc 11 .done))))))))))))))) .leaf)))) .leaf))))) (.seq .leaf .leaf)))))
theorem law24_view.eq (game0 : Array Value) (n1 : Int) (x2 : Array Value) (asked3 : Sl) (k4 : Int) (R : Value → Heap → Prop) (h : Heap) : law24_view.body game0 n1 x2 asked3 k4 R h = evFn Try.prog Try.f6 law24_view.ann [(.agg game0), (.int .i64 n1), (.agg x2), (.slice asked3.a asked3.n asked3.c), (.int .i64 k4)] R h := by kernel_rfl
theorem law24_view.calls {game0 : Array Value} {n1 : Int} {x2 : Array Value} {asked3 : Sl} {k4 : Int} {R : Value → Heap → Prop} {h : Heap} (H : law24_view.body game0 n1 x2 asked3 k4 R h) : HC Try.prog F.law24_view #[(.agg game0), (.int .i64 n1), (.agg x2), (.slice asked3.a asked3.n asked3.c), (.int .i64 k4)] R h :=
  evFn_sound mixed Try.func6 (by kernel_rfl) (law24_view.eq game0 n1 x2 asked3 k4 R h ▸ H)

/-! zugzwang/zugzwanglaw24.SealHides -/
def law24_SealHides.body (game0 : Array Value) (n1 : Int) (x2 : Array Value) (y3 : Array Value) (asked4 : Sl) (k5 : Int) (R : Value → Heap → Prop) (h : Heap) : Prop :=
  newK h game0 T.api_Tag (fun (game_1 : Option Addr) (h : Heap) =>
  newK h x2 T.api_Move (fun (x_2 : Option Addr) (h : Heap) =>
  newK h y3 T.api_Move (fun (y_3 : Option Addr) (h : Heap) =>
  callK Try.prog .bool F.law24_awake #[] (fun (v_4 : Bool) (h : Heap) =>
  if (!v_4) = true then
  R (.bool false) h
  else
  if (decide (((asked4.n : Int)) > 120)) = true then
  R (.bool true) h
  else
  sliceArrK game_1 32 none none none (sizeOfT Try.prog T.uint8) (fun (v_5 : Sl) =>
  callK Try.prog .bool F.tags_Mark #[(.slice v_5.a v_5.n v_5.c)] (fun (v_6 : Bool) (h : Heap) =>
  if v_6 = true then
  R (.bool true) h
  else
  loadAggK (sizeOfT Try.prog T.api_Tag) h game_1 (fun (v_7 : Array Value) =>
  loadAggK (sizeOfT Try.prog T.api_Move) h x_2 (fun (v_8 : Array Value) =>
  callK Try.prog (Kd.pair .slice (.int .i64)) F.law24_view #[(.agg v_7), (.int .i64 n1), (.agg v_8), (.slice asked4.a asked4.n asked4.c), (.int .i64 k5)] (fun (v_9 : Sl × Int) (h : Heap) =>
  loadAggK (sizeOfT Try.prog T.api_Tag) h game_1 (fun (v_10 : Array Value) =>
  loadAggK (sizeOfT Try.prog T.api_Move) h y_3 (fun (v_11 : Array Value) =>
  callK Try.prog (Kd.pair .slice (.int .i64)) F.law24_view #[(.agg v_10), (.int .i64 n1), (.agg v_11), (.slice asked4.a asked4.n asked4.c), (.int .i64 k5)] (fun (v_12 : Sl × Int) (h : Heap) =>
  if (v_9.2 != 0) = true then
  R (.bool true) h
  else
  if (v_12.2 != 0) = true then
  R (.bool true) h
  else
  joinW (fun (s_13 : Unit) (h : Heap) =>
  R (.bool (((v_9.1.n : Int)) == ((v_12.1.n : Int)))) h)
  (fun J_14 =>
  loopW (fun X_16 (s_15 : Int) (h : Heap) =>
  if (decide (s_15 < ((v_9.1.n : Int)))) = true then
  if (decide (s_15 < ((v_12.1.n : Int)))) = true then
  idxK v_9.1 s_15 (sizeOfT Try.prog T.api_Tag) (fun (a_17 : Addr) =>
  loadAggK (sizeOfT Try.prog T.api_Tag) h ((some a_17)) (fun (v_18 : Array Value) =>
  idxK v_12.1 s_15 (sizeOfT Try.prog T.api_Tag) (fun (a_19 : Addr) =>
  loadAggK (sizeOfT Try.prog T.api_Tag) h ((some a_19)) (fun (v_20 : Array Value) =>
  eqK Try.prog (binSem .neq T.api_Tag (.tmp 66) (.tmp 70) (.agg v_18) (.agg v_20)) (fun (v_21 : Bool) =>
  if v_21 = true then
  R (.bool false) h
  else
  X_16 (IntKind.i64.wrap (s_15 + 1)) h)))))
  else
  J_14 () h
  else
  J_14 () h) 0 h)) h))) h))) h)) h)))
def law24_SealHides.ann : Ann := (.seq .leaf (.seq (.seq .leaf (.cond (.seq .leaf .leaf) .leaf)) (.seq (.seq .leaf (.cond (.seq .leaf .leaf) .leaf)) (.seq .leaf (.seq .leaf (.seq (.seq .leaf (.cond (.seq .leaf .leaf) .leaf)) (.join [] (.seq .leaf (.block (.loop [(17, (.int .i64))] (.seq (.seq .leaf (.cond .leaf .leaf)) (.seq (.block (.seq .leaf (.cond (.seq .leaf .leaf) .leaf))) .leaf))))) (.seq .leaf .leaf))))))))
theorem law24_SealHides.eq (game0 : Array Value) (n1 : Int) (x2 : Array Value) (y3 : Array Value) (asked4 : Sl) (k5 : Int) (R : Value → Heap → Prop) (h : Heap) : law24_SealHides.body game0 n1 x2 y3 asked4 k5 R h = evFn Try.prog Try.f3 law24_SealHides.ann [(.agg game0), (.int .i64 n1), (.agg x2), (.agg y3), (.slice asked4.a asked4.n asked4.c), (.int .i64 k5)] R h := by kernel_rfl
theorem law24_SealHides.calls {game0 : Array Value} {n1 : Int} {x2 : Array Value} {y3 : Array Value} {asked4 : Sl} {k5 : Int} {R : Value → Heap → Prop} {h : Heap} (H : law24_SealHides.body game0 n1 x2 y3 asked4 k5 R h) : HC Try.prog F.law24_SealHides #[(.agg game0), (.int .i64 n1), (.agg x2), (.agg y3), (.slice asked4.a asked4.n asked4.c), (.int .i64 k5)] R h :=
  evFn_sound mixed Try.func3 (by kernel_rfl) (law24_SealHides.eq game0 n1 x2 y3 asked4 k5 R h ▸ H)

end Go.Proofs.Ytijipdaofojbiaa
